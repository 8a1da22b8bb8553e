/- What the functions of the program answer, for all arguments that the theorems name as conditions. -/
import Derived.Test.YtelkckbbelillaaS5G1
namespace Go.Ab
set_option linter.unusedSimpArgs false
set_option linter.unusedVariables false
set_option maxHeartbeats 4000000

/-! ## Places of grids -/
def plB (r w x y : Int) : Bool := inB x 0 (IntKind.i64.wrap (r - 1)) && inB y 0 (IntKind.i64.wrap (w - 1))
theorem s_impl_Grid_isPlace (g : GridT) (x y : Int) : X_impl_Grid_isPlace [gridV g, .int .i64 x, .int .i64 y] [] = some (.bool (plB g.r g.w x y), []) := by
  simp +contextual -implicitDefEqProofs [X_impl_Grid_isPlace, retK_eq, s_impl_in]
  unfold plB
  cases inB x 0 (IntKind.i64.wrap (g.r - 1)) <;> simp
theorem s_spec_l3Place (g : GridT) (x y : Int) (rest : List Value) : X_spec_l3Place [gridP g rest, .int .i64 x, .int .i64 y] [] = some (.bool (plB g.r g.w x y), []) := by
  simp +contextual -implicitDefEqProofs [X_spec_l3Place, retK_eq, s_spec_l1In]
  unfold plB
  cases inB x 0 (IntKind.i64.wrap (g.r - 1)) <;> simp
end Go.Ab
