/- What the functions of the program answer, for all arguments that the theorems name as conditions. -/
import Derived.Test.YtkfbpdbopkdnjaaS3B1d
namespace Go.Ab
set_option linter.unusedSimpArgs false
set_option linter.unusedVariables false
set_option maxHeartbeats 8000000

theorem s_spec_l1In (x a b : Int) : X_spec_l1In [.int .i64 x, .int .i64 a, .int .i64 b] [] = some (.bool (inB x a b), []) := by
  simp +contextual -implicitDefEqProofs [X_spec_l1In, retK_eq]
  by_cases h : a ≤ x <;> simp [h, inB]
end Go.Ab
