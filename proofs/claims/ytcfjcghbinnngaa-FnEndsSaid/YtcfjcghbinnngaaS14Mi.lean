/- What the functions of the program answer, for all arguments that the theorems name as conditions. -/
import Derived.Test.YtcfjcghbinnngaaS14Mh
import Derived.Test.YtcfjcghbinnngaaFD
set_option linter.unusedVariables false
set_option linter.unusedSimpArgs false
namespace Go.Ab
set_option maxHeartbeats 8000000
def markB (t : Int) : Nat → List Int
  | 0 => []
  | n + 1 => IntKind.u8.wrap t :: markB (t + 1) n
@[simp] theorem markB_len (t : Int) (n : Nat) : (markB t n).length = n := by
  induction n generalizing t with
  | zero => rfl
  | succ n ih => simp [markB, ih]
end Go.Ab
namespace Go.Ab
set_option maxHeartbeats 8000000
end Go.Ab
namespace Go.Ab
set_option maxHeartbeats 8000000
end Go.Ab
namespace Go.Ab
set_option maxHeartbeats 8000000
end Go.Ab
namespace Go.Ab
set_option maxHeartbeats 8000000
end Go.Ab
namespace Go.Ab
set_option maxHeartbeats 4000000
end Go.Ab
namespace Go.Ab
set_option maxHeartbeats 8000000
end Go.Ab
namespace Go.Ab
set_option maxHeartbeats 8000000
end Go.Ab
namespace Go.Ab
set_option maxHeartbeats 40000000
end Go.Ab
namespace Go.Ab
set_option maxHeartbeats 40000000
end Go.Ab
namespace Go.Ab
set_option maxHeartbeats 4000000
end Go.Ab
namespace Go.Ab
set_option maxHeartbeats 8000000
end Go.Ab
