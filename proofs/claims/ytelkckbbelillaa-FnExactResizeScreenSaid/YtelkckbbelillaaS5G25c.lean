/- What the functions of the program answer, for all arguments that the theorems name as conditions. -/
import Derived.Test.YtelkckbbelillaaS5G25a
namespace Go.Ab
set_option linter.unusedSimpArgs false
set_option linter.unusedVariables false
set_option maxHeartbeats 8000000

theorem s_spec_l1Min (a b : Int) : X_spec_l1Min [.int .i64 a, .int .i64 b] [] = some (.int .i64 (min a b), []) := by
  simp -implicitDefEqProofs [X_spec_l1Min, retK_eq]
  by_cases h : a < b
  · rw [if_pos h, Int.min_eq_left (by omega)]
  · rw [if_neg h, Int.min_eq_right (by omega)]

end Go.Ab
