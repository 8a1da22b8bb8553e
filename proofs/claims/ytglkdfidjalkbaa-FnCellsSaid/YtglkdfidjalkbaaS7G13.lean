/- What the functions of the program answer, for all arguments that the theorems name as conditions. -/
import Derived.Test.YtglkdfidjalkbaaS7G12
namespace Go.Ab
set_option linter.unusedSimpArgs false
set_option linter.unusedVariables false
set_option maxHeartbeats 4000000

abbrev ceM (g : GridT) (i j a : Int) : Mem := [blk [.int .i64 i], blk [.int .i64 g.cs.length], blk [.int .i64 j], blk [.int .i64 a]]
abbrev ceA (g : GridT) : List Value := [gridV g, .func (.func 72) #[] #[ptr 0, ptr 1, ptr 2, ptr 3], .func (.func 75) #[] #[ptr 0, ptr 2, ptr 3]]
theorem s_changedE_fault (g : GridT) (i j a : Int) (hg : g.small) (hf : ¬ faultG g = 0) : X_impl_changed (ceA g) (ceM g i j a) = some (resZ (faultG g), ceM g i j a) := by
  have c1 := s_impl_GridFault g hg
  simp (maxSteps := 1000000) -implicitDefEqProofs [X_impl_changed, cf_impl_changed, retK_eq, c1, hf]
theorem s_changedE_bad (g : GridT) (i j a : Int) (hg : g.small) (hf : faultG g = 0) (ho : okEra g i j a = false) : X_impl_changed (ceA g) (ceM g i j a) = some (resZ 3, ceM g i j a) := by
  have c1 := s_impl_GridFault g hg
  have c2 := s_impl_EraseCells_1 g i j a
  simp (maxSteps := 1000000) -implicitDefEqProofs [X_impl_changed, cf_impl_changed, retK_eq, c1, c2, hf, ho]
theorem cs_ne {g : GridT} (hf : faultG g = 0) : g.cs ≠ [] := by
  have hs := szB_of hf
  have hb := szB_b hs
  intro e
  unfold faultG at hf
  rw [if_pos hs] at hf
  split at hf
  · rename_i hh
    unfold formG at hh
    simp at hh
    have := hh.1
    rw [e] at this
    simp at this
    have m : 1 * 2 ≤ g.r * g.w := Int.mul_le_mul (by omega) (by omega) (by omega) (by omega)
    omega
  · cases hf
theorem era_len {g : GridT} {i j a : Int} (ho : okEra g i j a = true) : (eraG g i j a).cs.length = g.cs.length := by
  obtain ⟨h0, h1, h2⟩ := era_facts ho
  exact eraL_len _ _ _ _ (by omega) (by omega)
theorem s_changedE (g : GridT) (i j a : Int) (hg : g.small) (hf : faultG g = 0) (ho : okEra g i j a = true) (hb : g.bk ≠ []) : X_impl_changed (ceA g) (ceM g i j a) = some (resO (eraG g i j a) 4 5, ceM g i j a ++ [ownB eC (eraG g i j a).cs, ownB eC g.bk]) := by
  have c1 := s_impl_GridFault g hg
  have c2 := s_impl_EraseCells_1 g i j a
  have c3 := s_impl_Grid_clone g hg (cs_ne hf) hb
  have c4 := s_impl_EraseCells_2 g i j a hg ho
  have e1 := era_len ho
  simp (maxSteps := 1000000) -implicitDefEqProofs [X_impl_changed, cf_impl_changed, retK_eq, c1, c2, c3, c4, hf, ho, e1]
  simp [eraG]
theorem s_changedE0 (g : GridT) (i j a : Int) (hg : g.small) (hf : faultG g = 0) (ho : okEra g i j a = true) (hb : g.bk = []) : X_impl_changed (ceA g) (ceM g i j a) = some (resE (eraG g i j a) 4, ceM g i j a ++ [ownB eC (eraG g i j a).cs]) := by
  have c1 := s_impl_GridFault g hg
  have c2 := s_impl_EraseCells_1 g i j a
  have c3 := s_impl_Grid_clone0 g hg (cs_ne hf) hb
  have c4 := s_impl_EraseCells_2E g i j a hg ho
  have e1 := era_len ho
  simp (maxSteps := 1000000) -implicitDefEqProofs [X_impl_changed, cf_impl_changed, retK_eq, c1, c2, c3, c4, hf, ho, e1]
  simp [eraG]
theorem s_impl_EraseCells_fault (g : GridT) (i j a : Int) (hg : g.small) (hf : ¬ faultG g = 0) : X_impl_EraseCells [gridV g, .int .i64 i, .int .i64 j, .int .i64 a] [] = some (resZ (faultG g), []) := by
  have h := s_changedE_fault g i j a hg hf
  simp (maxSteps := 1000000) -implicitDefEqProofs [X_impl_EraseCells, retK_eq, h]
theorem s_impl_EraseCells_bad (g : GridT) (i j a : Int) (hg : g.small) (hf : faultG g = 0) (ho : okEra g i j a = false) : X_impl_EraseCells [gridV g, .int .i64 i, .int .i64 j, .int .i64 a] [] = some (resZ 3, []) := by
  have h := s_changedE_bad g i j a hg hf ho
  simp (maxSteps := 1000000) -implicitDefEqProofs [X_impl_EraseCells, retK_eq, h]
theorem s_impl_EraseCells (g : GridT) (i j a : Int) (hg : g.small) (hf : faultG g = 0) (ho : okEra g i j a = true) (hb : g.bk ≠ []) : X_impl_EraseCells [gridV g, .int .i64 i, .int .i64 j, .int .i64 a] [] = some (resO (eraG g i j a) 0 1, [ownB eC (eraG g i j a).cs, ownB eC g.bk]) := by
  have h := s_changedE g i j a hg hf ho hb
  simp (maxSteps := 1000000) -implicitDefEqProofs [X_impl_EraseCells, retK_eq, h]
theorem s_impl_EraseCells0 (g : GridT) (i j a : Int) (hg : g.small) (hf : faultG g = 0) (ho : okEra g i j a = true) (hb : g.bk = []) : X_impl_EraseCells [gridV g, .int .i64 i, .int .i64 j, .int .i64 a] [] = some (resE (eraG g i j a) 0, [ownB eC (eraG g i j a).cs]) := by
  have h := s_changedE0 g i j a hg hf ho hb
  simp (maxSteps := 1000000) -implicitDefEqProofs [X_impl_EraseCells, retK_eq, h]
end Go.Ab
