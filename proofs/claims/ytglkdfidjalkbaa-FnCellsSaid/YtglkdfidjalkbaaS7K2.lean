/- What the functions of the program answer, for all arguments that the theorems name as conditions. -/
import Derived.Test.YtglkdfidjalkbaaS7G14
import Derived.Test.YtglkdfidjalkbaaS7K1
namespace Go.Ab
set_option linter.unusedSimpArgs false
set_option linter.unusedVariables false
set_option maxHeartbeats 8000000

/-! ## Frozen answers of EraseCells -/
def kEra (g : GridT) (i j z : Int) : Int := if faultG g = 0 then (if okEra g i j z = true then 0 else 3) else faultG g
def gEra (g : GridT) (i j z : Int) : GridT := if faultG g = 0 ∧ okEra g i j z = true then eraG g i j z else gNo
theorem z_impl_EraseCells (g : GridT) (i j z : Int) (hg : g.small) (m : Mem) : icall X_impl_EraseCells [gridV g, .int .i64 i, .int .i64 j, .int .i64 z] m = some (resF (kEra g i j z) (gEra g i j z), m) := by
  by_cases hf : faultG g = 0
  · cases ho : okEra g i j z
    · have h := s_impl_EraseCells_bad g i j z hg hf ho
      simp -implicitDefEqProofs [h, kEra, gEra, hf, ho, gNo, frS_nil]
    · have e1 : (eraG g i j z).bk = g.bk := rfl
      by_cases hb : g.bk = []
      · have h := s_impl_EraseCells0 g i j z hg hf ho hb
        have e : frS eC g.bk = roS 0 [] := by rw [hb]; exact frS_nil eC
        simp -implicitDefEqProofs [h, kEra, gEra, hf, ho, e1, e]
      · have h := s_impl_EraseCells g i j z hg hf ho hb
        simp -implicitDefEqProofs [h, kEra, gEra, hf, ho, e1]
  · have h := s_impl_EraseCells_fault g i j z hg hf
    simp -implicitDefEqProofs [h, kEra, gEra, hf, gNo, frS_nil]
theorem z_spec_EraseCells (g : GridT) (i j z : Int) (hg : g.small) (m : Mem) : icall X_spec_EraseCells [gridV g, .int .i64 i, .int .i64 j, .int .i64 z] m = some (resF (kEra g i j z) (gEra g i j z), m) := by
  by_cases hf : faultG g = 0
  · cases ho : okEra g i j z
    · have h := s_spec_EraseCells_bad g i j z hg hf ho
      simp -implicitDefEqProofs [h, kEra, gEra, hf, ho, gNo, frS_nil]
    · have e1 : (eraG g i j z).bk = g.bk := rfl
      have h := s_spec_EraseCells g i j z hg hf ho
      simp -implicitDefEqProofs [h, kEra, gEra, hf, ho, e1]
  · have h := s_spec_EraseCells_fault g i j z hg hf
    simp -implicitDefEqProofs [h, kEra, gEra, hf, gNo, frS_nil]
def wantE (g : GridT) (i j z : Int) (n : Nat) : CellT := if i ≤ n ∧ (n : Int) < j then ⟨32, z⟩ else gt g.cs n
theorem era_want (g : GridT) (i j z : Int) (ho : okEra g i j z = true) (n : Nat) (hn : n < g.cs.length) : gt (eraG g i j z).cs n = wantE g i j z n := by
  obtain ⟨h0, h1, h2⟩ := era_facts ho
  obtain ⟨i, rfl⟩ := Int.eq_ofNat_of_zero_le h0
  obtain ⟨j, rfl⟩ := Int.eq_ofNat_of_zero_le (show 0 ≤ j by omega)
  have e := eraL_len g.cs i j ⟨32, z⟩ (by omega) (by omega)
  unfold wantE
  have hlt : n < (eraL g.cs i j ⟨32, z⟩).length := by omega
  show gt (eraL g.cs i j ⟨32, z⟩) n = _
  rw [gt_lt hlt]
  simp only [eraL, List.getElem_append, List.getElem_take, List.getElem_drop, List.getElem_replicate, List.length_append, List.length_take, List.length_replicate]
  split
  · rename_i h3
    split
    · rename_i h4
      rw [if_neg (by omega), gt_lt hn]
    · rename_i h4
      rw [if_pos (by omega)]
  · rename_i h3
    rw [if_neg (by omega), gt_lt hn]
    congr 1
    omega
theorem put_fault (g : GridT) (y x : Int) (c : CellT) (hf : faultG g = 0) (ho : okPut g y x c = true) : faultG (putG g y x c) = 0 := by
  have hs := szB_of hf
  have hl := putG_len g y x c
  unfold faultG at hf ⊢
  rw [if_pos hs] at hf
  rw [show szB (putG g y x c).r (putG g y x c).w = true from hs, if_pos rfl]
  have hform : formG (putG g y x c) = formG g := by unfold formG; rw [hl]; rfl
  rw [hform]
  split at hf
  · rename_i h1
    rw [if_pos h1]
    split at hf
    · rename_i h2
      simp only [Bool.and_eq_true] at h2
      rw [if_pos]
      simp only [Bool.and_eq_true]
      refine ⟨?_, h2.2⟩
      have ho2 : okC c = true := by simp [okPut] at ho; exact ho.2
      unfold allC at h2 ⊢
      rw [List.all_eq_true] at h2 ⊢
      intro z hz
      simp only [putG] at hz
      rcases List.mem_or_eq_of_mem_set hz with h | h
      · exact h2.1 z h
      · rw [h]; exact ho2
    · cases hf
  · cases hf
end Go.Ab
