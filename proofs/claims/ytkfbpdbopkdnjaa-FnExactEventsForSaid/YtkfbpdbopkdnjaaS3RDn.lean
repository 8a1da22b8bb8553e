/- What the functions of the program answer, for all arguments that the theorems name as conditions. -/
import Derived.Test.YtkfbpdbopkdnjaaS3RA
import Derived.Test.YtkfbpdbopkdnjaaFD
namespace Go.Ab
set_option linter.unusedSimpArgs false
set_option linter.unusedVariables false
set_option maxHeartbeats 40000000

theorem rnh_slO (N K n : Nat) (h : 0 < K) : rnV 8 hard (sft N K) (slO 0 n) = some (slO N n) := by
  simp [h]
theorem szN_val {n : Nat} {x : Int} (h : ¬ szN n x < 0) : szN n x = x - n := by
  unfold szN at *
  split at h
  · omega
  · rename_i h1; rw [if_neg h1]
end Go.Ab
