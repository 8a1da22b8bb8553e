/- What the functions of the program answer, for all arguments that the theorems name as conditions. -/
import Derived.Test.YtkfbpdbopkdnjaaS3B0
namespace Go.Ab
set_option linter.unusedSimpArgs false
set_option linter.unusedVariables false
set_option maxHeartbeats 8000000

def unl (t : Bool) (a : Int) : Int := if t = true then 0 else a
theorem s_impl_unless (t : Bool) (a : Int) : X_impl_unless [.bool t, .int .i64 a] [] = some (.int .i64 (unl t a), []) := by
  simp +contextual -implicitDefEqProofs [X_impl_unless, retK_eq]
  cases t <;> simp [unl]
end Go.Ab
