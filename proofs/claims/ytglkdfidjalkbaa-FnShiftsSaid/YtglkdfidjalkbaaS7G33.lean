/- What the functions of the program answer, for all arguments that the theorems name as conditions. -/
import Derived.Test.YtglkdfidjalkbaaS7G32
namespace Go.Ab
set_option linter.unusedSimpArgs false
set_option linter.unusedVariables false
set_option maxHeartbeats 8000000

theorem s_spec_ResizeGrid_fault (g : GridT) (rows v : Int) (hg : g.small) (hf : ¬ faultG g = 0) : X_spec_ResizeGrid [gridV g, .int .i64 rows, .int .i64 v] [] = some (resZ (faultG g), []) := by
  have c1 := fun rest => s_spec_l3Fault g hg rest
  have c4 := s_spec_l3Bad
  simp (maxSteps := 1000000) -implicitDefEqProofs [X_spec_ResizeGrid, retK_eq, c1, c4, hf]
theorem s_spec_ResizeGrid_bad (g : GridT) (rows v : Int) (hg : g.small) (hf : faultG g = 0) (ho : szB rows v = false) : X_spec_ResizeGrid [gridV g, .int .i64 rows, .int .i64 v] [] = some (resZ 3, []) := by
  have c1 := fun rest => s_spec_l3Fault g hg rest
  have c4 := s_spec_l3Bad
  simp (maxSteps := 1000000) -implicitDefEqProofs [X_spec_ResizeGrid, retK_eq, c1, c4, hf, ho, s_spec_l3Size]
theorem s_spec_ResizeGrid (g : GridT) (rows v : Int) (hg : g.small) (hf : faultG g = 0) (ho : szB rows v = true) : ∃ bv bm, ((reB g v = [] ∧ bv = .slice none 0 0 ∧ bm = []) ∨ (reB g v ≠ [] ∧ bv = slO 1 (reB g v).length ∧ bm = [ownB eC (reB g v)])) ∧ X_spec_ResizeGrid [gridV g, .int .i64 rows, .int .i64 v] [] = some (.agg #[.int .i64 0, .int .i64 rows, .int .i64 v, slO 0 (reG g rows v).cs.length, bv], ownB eC (reG g rows v).cs :: bm) := by
  have c1 := fun rest => s_spec_l3Fault g hg rest
  obtain ⟨bv, bm, hb, c2⟩ := s_spec_l3Resize g rows v hf ho
  refine ⟨bv, bm, hb, ?_⟩
  generalize (reG g rows v).cs = F at *
  generalize reB g v = rb at *
  rcases hb with ⟨h1, rfl, rfl⟩ | ⟨h1, rfl, rfl⟩ <;> simp (maxSteps := 1000000) -implicitDefEqProofs [X_spec_ResizeGrid, retK_eq, c1, c2, hf, ho, s_spec_l3Size]
end Go.Ab
