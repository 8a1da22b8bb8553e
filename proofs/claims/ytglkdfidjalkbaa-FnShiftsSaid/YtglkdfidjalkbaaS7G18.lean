/- What the functions of the program answer, for all arguments that the theorems name as conditions. -/
import Derived.Test.YtglkdfidjalkbaaS7G17
namespace Go.Ab
set_option linter.unusedSimpArgs false
set_option linter.unusedVariables false
set_option maxHeartbeats 4000000

abbrev csM (g : GridT) (y x n z : Int) : Mem := [blk [.int .i64 g.r, .int .i64 g.w, frS eC g.cs, frS eC g.bk], blk [.int .i64 y], blk [.int .i64 x], blk [.int .i64 n], blk [.int .i64 z]]
abbrev csA (g : GridT) : List Value := [gridV g, .func (.func 90) #[] #[ptr 0, ptr 1, ptr 2, ptr 3, ptr 4], .func (.func 91) #[] #[ptr 1, ptr 2, ptr 3, ptr 4]]
theorem cs_ne' {g : GridT} (hf : faultG g = 0) : g.cs ≠ [] := by
  have := (grid_facts hf).2.2.2.2.2.2.2.1
  intro e
  rw [e] at this
  simp at this
theorem sh_len {g : GridT} {y x n z : Int} (hf : faultG g = 0) (ho : okSh g y x n z = true) : (shG g y x n z).cs.length = g.cs.length := by
  obtain ⟨A, W, X, hW, hX, x1, hA, l1, l2, W1, n0, n1, y0, y1, e1, e2, e3, e4, e5, e6⟩ := sh_facts hf ho
  exact shL_len _ _ _ _ _ (by rw [e5, e6]; omega)
theorem s_changedS_fault (g : GridT) (y x n z : Int) (hg : g.small) (hf : ¬ faultG g = 0) : X_impl_changed (csA g) (csM g y x n z) = some (resZ (faultG g), csM g y x n z) := by
  have c1 := s_impl_GridFault g hg
  simp (maxSteps := 1000000) -implicitDefEqProofs [X_impl_changed, cf_impl_changed, retK_eq, c1, hf]
theorem s_changedS_bad (g : GridT) (y x n z : Int) (hg : g.small) (hf : faultG g = 0) (ho : okSh g y x n z = false) : X_impl_changed (csA g) (csM g y x n z) = some (resZ 3, csM g y x n z) := by
  have c1 := s_impl_GridFault g hg
  have c2 := s_impl_ShiftCells_1 g y x n z
  simp (maxSteps := 1000000) -implicitDefEqProofs [X_impl_changed, cf_impl_changed, retK_eq, c1, c2, hf, ho]
theorem s_changedS (g : GridT) (y x n z : Int) (hg : g.small) (hf : faultG g = 0) (ho : okSh g y x n z = true) (hb : g.bk ≠ []) : X_impl_changed (csA g) (csM g y x n z) = some (resO (shG g y x n z) 5 6, csM g y x n z ++ [ownB eC (shG g y x n z).cs, ownB eC g.bk]) := by
  have c1 := s_impl_GridFault g hg
  have c2 := s_impl_ShiftCells_1 g y x n z
  have c3 := s_impl_Grid_clone g hg (cs_ne' hf) hb
  have c4 := s_impl_ShiftCells_2 g y x n z _ _ hf ho (.inl ⟨rfl, rfl⟩)
  have e1 := sh_len hf ho
  simp (maxSteps := 1000000) -implicitDefEqProofs [X_impl_changed, cf_impl_changed, retK_eq, c1, c2, c3, c4, hf, ho, e1]
  simp [shG]
theorem s_changedS0 (g : GridT) (y x n z : Int) (hg : g.small) (hf : faultG g = 0) (ho : okSh g y x n z = true) (hb : g.bk = []) : X_impl_changed (csA g) (csM g y x n z) = some (resE (shG g y x n z) 5, csM g y x n z ++ [ownB eC (shG g y x n z).cs]) := by
  have c1 := s_impl_GridFault g hg
  have c2 := s_impl_ShiftCells_1 g y x n z
  have c3 := s_impl_Grid_clone0 g hg (cs_ne' hf) hb
  have c4 := s_impl_ShiftCells_2 g y x n z _ _ hf ho (.inr ⟨rfl, rfl, hb⟩)
  have e1 := sh_len hf ho
  simp (maxSteps := 1000000) -implicitDefEqProofs [X_impl_changed, cf_impl_changed, retK_eq, c1, c2, c3, c4, hf, ho, e1]
  simp [shG]
abbrev shA (g : GridT) (y x n z : Int) : List Value := [gridV g, .int .i64 y, .int .i64 x, .int .i64 n, .int .i64 z]
theorem s_impl_ShiftCells_fault (g : GridT) (y x n z : Int) (hg : g.small) (hf : ¬ faultG g = 0) : X_impl_ShiftCells (shA g y x n z) [] = some (resZ (faultG g), []) := by
  have h := s_changedS_fault g y x n z hg hf
  simp (maxSteps := 1000000) -implicitDefEqProofs [X_impl_ShiftCells, retK_eq, h]
theorem s_impl_ShiftCells_bad (g : GridT) (y x n z : Int) (hg : g.small) (hf : faultG g = 0) (ho : okSh g y x n z = false) : X_impl_ShiftCells (shA g y x n z) [] = some (resZ 3, []) := by
  have h := s_changedS_bad g y x n z hg hf ho
  simp (maxSteps := 1000000) -implicitDefEqProofs [X_impl_ShiftCells, retK_eq, h]
theorem s_impl_ShiftCells (g : GridT) (y x n z : Int) (hg : g.small) (hf : faultG g = 0) (ho : okSh g y x n z = true) (hb : g.bk ≠ []) : X_impl_ShiftCells (shA g y x n z) [] = some (resO (shG g y x n z) 0 1, [ownB eC (shG g y x n z).cs, ownB eC g.bk]) := by
  have h := s_changedS g y x n z hg hf ho hb
  simp (maxSteps := 1000000) -implicitDefEqProofs [X_impl_ShiftCells, retK_eq, h]
theorem s_impl_ShiftCells0 (g : GridT) (y x n z : Int) (hg : g.small) (hf : faultG g = 0) (ho : okSh g y x n z = true) (hb : g.bk = []) : X_impl_ShiftCells (shA g y x n z) [] = some (resE (shG g y x n z) 0, [ownB eC (shG g y x n z).cs]) := by
  have h := s_changedS0 g y x n z hg hf ho hb
  simp (maxSteps := 1000000) -implicitDefEqProofs [X_impl_ShiftCells, retK_eq, h]
end Go.Ab
