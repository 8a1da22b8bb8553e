/- What the functions of the program answer, for all arguments that the theorems name as conditions. -/
import Derived.Test.YtglkdfidjalkbaaS7G18
import Derived.Test.YtglkdfidjalkbaaS7G20
import Derived.Test.YtglkdfidjalkbaaS7K3a
namespace Go.Ab
set_option linter.unusedSimpArgs false
set_option linter.unusedVariables false
set_option maxHeartbeats 8000000

/-! ## Frozen answers of ShiftCells -/
def kSh (g : GridT) (y x n z : Int) : Int := if faultG g = 0 then (if okSh g y x n z = true then 0 else 3) else faultG g
def gSh (g : GridT) (y x n z : Int) : GridT := if faultG g = 0 ∧ okSh g y x n z = true then shG g y x n z else gNo
theorem z_impl_ShiftCells (g : GridT) (y x n z : Int) (hg : g.small) (m : Mem) : icall X_impl_ShiftCells [gridV g, .int .i64 y, .int .i64 x, .int .i64 n, .int .i64 z] m = some (resF (kSh g y x n z) (gSh g y x n z), m) := by
  by_cases hf : faultG g = 0
  · cases ho : okSh g y x n z
    · have h := s_impl_ShiftCells_bad g y x n z hg hf ho
      simp -implicitDefEqProofs [h, kSh, gSh, hf, ho, gNo, frS_nil]
    · have e1 : (shG g y x n z).bk = g.bk := rfl
      by_cases hb : g.bk = []
      · have h := s_impl_ShiftCells0 g y x n z hg hf ho hb
        have e : frS eC g.bk = roS 0 [] := by rw [hb]; exact frS_nil eC
        simp -implicitDefEqProofs [h, kSh, gSh, hf, ho, e1, e]
      · have h := s_impl_ShiftCells g y x n z hg hf ho hb
        simp -implicitDefEqProofs [h, kSh, gSh, hf, ho, e1]
  · have h := s_impl_ShiftCells_fault g y x n z hg hf
    simp -implicitDefEqProofs [h, kSh, gSh, hf, gNo, frS_nil]
theorem z_spec_ShiftCells (g : GridT) (y x n z : Int) (hg : g.small) (m : Mem) : icall X_spec_ShiftCells [gridV g, .int .i64 y, .int .i64 x, .int .i64 n, .int .i64 z] m = some (resF (kSh g y x n z) (gSh g y x n z), m) := by
  by_cases hf : faultG g = 0
  · cases ho : okSh g y x n z
    · have h := s_spec_ShiftCells_bad g y x n z hg hf ho
      simp -implicitDefEqProofs [h, kSh, gSh, hf, ho, gNo, frS_nil]
    · have e1 : (shG g y x n z).bk = g.bk := rfl
      have h := s_spec_ShiftCells g y x n z hg hf ho (sh_len hf ho)
      simp -implicitDefEqProofs [h, kSh, gSh, hf, ho, e1]
  · have h := s_spec_ShiftCells_fault g y x n z hg hf
    simp -implicitDefEqProofs [h, kSh, gSh, hf, gNo, frS_nil]
theorem shG_ok {g : GridT} {y x n z : Int} (hf : faultG g = 0) (ho : okSh g y x n z = true) : faultG (shG g y x n z) = 0 := by
  obtain ⟨A, W, X, hW, hX, x1, hA, l1, l2, W1, n0, n1, y0, y1, e1, e2, e3, e4, e5, e6⟩ := sh_facts hf ho
  obtain ⟨q1, q2, q3, q4, q5, q6, q7, q8, q9, q10, q11, q12⟩ := grid_facts hf
  have hs := szB_of hf
  have hl := sh_len hf ho
  have hz : okC ⟨32, z⟩ = true := by
    simp [okSh] at ho
    simp only [okC, ho.2.2, Bool.and_true]
    decide
  have hcs : allC (shG g y x n z).cs = true := by
    unfold allC at q11 ⊢
    rw [List.all_eq_true] at q11 ⊢
    intro c hc
    rcases shL_mem (by rw [e5, e6]; omega) hc with h | h
    · exact q11 c h
    · rw [h]; exact hz
  unfold faultG
  rw [show szB (shG g y x n z).r (shG g y x n z).w = true from hs, if_pos rfl]
  have hform : formG (shG g y x n z) = true := by
    unfold formG
    rw [hl, show (shG g y x n z).r = g.r from rfl, show (shG g y x n z).w = g.w from rfl, show (shG g y x n z).bk = g.bk from rfl]
    simp [q5, q9, q10]
  rw [hform, hcs, show (shG g y x n z).bk = g.bk from rfl, q12]
  rfl
theorem sh_want {g : GridT} {y x n z : Int} (hf : faultG g = 0) (ho : okSh g y x n z = true) {j i : Int} (j0 : 0 ≤ j) (j1 : j < g.r) (i0 : 0 ≤ i) (i1 : i < g.w) : lwC (shG g y x n z) j i = if j = y ∧ x ≤ i then (if x ≤ i - n ∧ i - n < g.w then lwC g j (i - n) else ⟨32, z⟩) else lwC g j i := by
  have hf2 := shG_ok hf ho
  obtain ⟨A, W, X, hW, hX, x1, hA, l1, l2, W1, n0, n1, y0, y1, e1, e2, e3, e4, e5, e6⟩ := sh_facts hf ho
  obtain ⟨p1, p2, p3⟩ := lwC_pl hf2 j0 j1 i0 i1
  have hl := sh_len hf ho
  rw [hl] at p3
  have ew : (shG g y x n z).w = g.w := rfl
  rw [ew] at p1 p2 p3
  obtain ⟨k, hk⟩ := Int.eq_ofNat_of_zero_le p2
  have ecs : (shG g y x n z).cs = shL g.cs (A + X) (W - X) n ⟨32, z⟩ := by
    simp only [shG]
    rw [e5, e6]
  rw [p1, hk, ecs, Int.toNat_natCast, shL_gt _ _ _ _ _ (by omega) _ (by omega)]
  have i2 := mul_le_iff (a := y) (b := j) i0 i1
  have i3 := mul_le_iff (a := y + 1) (b := j) i0 i1
  rw [hk] at i2 i3
  have ey : (y + 1) * g.w = A + W := by rw [Int.add_mul, Int.one_mul, hA, hW]
  rw [ey] at i3
  rw [hA] at i2
  by_cases h1 : j = y ∧ x ≤ i
  · obtain ⟨rfl, h1⟩ := h1
    rw [hA] at hk
    rw [if_pos (show A + X ≤ k ∧ k < A + X + (W - X) by omega), if_pos (show j = j ∧ x ≤ i from ⟨rfl, h1⟩)]
    by_cases h2 : x ≤ i - n ∧ i - n < g.w
    · rw [if_pos (show ((A + X : Nat) : Int) ≤ (k : Int) - n ∧ (k : Int) - n < ((A + X + (W - X) : Nat) : Int) by omega), if_pos h2, (lwC_pl hf (y := j) (x := i - n) j0 j1 (by omega) h2.2).1, hA]
      congr 1
      omega
    · rw [if_neg (show ¬ (((A + X : Nat) : Int) ≤ (k : Int) - n ∧ (k : Int) - n < ((A + X + (W - X) : Nat) : Int)) by omega), if_neg h2]
  · rw [if_neg (show ¬ (A + X ≤ k ∧ k < A + X + (W - X)) from ?_), if_neg h1, (lwC_pl hf j0 j1 i0 i1).1, hk]
    · rfl
    · intro hc
      apply h1
      have : j = y := by omega
      subst this
      rw [hA] at hk
      exact ⟨rfl, by omega⟩
end Go.Ab
