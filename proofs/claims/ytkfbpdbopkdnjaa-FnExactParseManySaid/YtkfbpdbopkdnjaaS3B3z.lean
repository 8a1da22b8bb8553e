/- What the functions of the program answer, for all arguments that the theorems name as conditions. -/
import Derived.Test.YtkfbpdbopkdnjaaS3B0
namespace Go.Ab
set_option linter.unusedSimpArgs false
set_option linter.unusedVariables false
set_option maxHeartbeats 8000000

def szN (n : Nat) (left : Int) : Int := if left - n < 0 then -1 else left - n
theorem szN_le {n : Nat} {x : Int} (h : x ≤ 1048576) : szN n x ≤ 1048576 := by unfold szN; split <;> omega
theorem szN_small {n : Nat} {x : Int} (hx : x ≤ 1048576) (h : 0 ≤ szN n x) : n < 1000000000 := by
  unfold szN at h; split at h <;> omega
end Go.Ab
