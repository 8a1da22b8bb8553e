/- What the functions of the program answer, for all arguments that the theorems name as conditions. -/
import Derived.Test.YtnmjgjedkdmefaaS12Mi
import Derived.Test.YtnmjgjedkdmefaaS12Mh
import Derived.Test.YtnmjgjedkdmefaaFD
set_option linter.unusedVariables false
set_option linter.unusedSimpArgs false
namespace Go.Ab
set_option maxHeartbeats 8000000
theorem fz_rb (c : Int) : fz 64 [] (lrB c) = some (lrF c false [] [] ⟨[], [], false, 0⟩) := by simp [frS_nil]
end Go.Ab
namespace Go.Ab
set_option maxHeartbeats 8000000
end Go.Ab
namespace Go.Ab
set_option maxHeartbeats 8000000
end Go.Ab
