/- What the functions of the program answer, for all arguments that the theorems name as conditions. -/
import Derived.Test.YtglkdfidjalkbaaS2G10
namespace Go.Ab
set_option linter.unusedSimpArgs false
set_option linter.unusedVariables false
set_option maxHeartbeats 8000000

theorem markG_r (g : GridT) (t : Int) : (markG g t).r = g.r := rfl
theorem markG_w (g : GridT) (t : Int) : (markG g t).w = g.w := rfl
theorem fz_markC (g : GridT) (t : Int) (k : Nat) (m : Mem) : fzO (k + 1) m (some (ownB eC (markG g t).cs)) 0 g.cs.length = some (frS eC (markG g t).cs) := by
  have := fzO_own eC k m (markG g t).cs
  rwa [show (markG g t).cs.length = g.cs.length by simp [markG]] at this
theorem fz_markB (g : GridT) (t : Int) (k : Nat) (m : Mem) : fzO (k + 1) m (some (ownB eC (markG g t).bk)) 0 g.bk.length = some (frS eC (markG g t).bk) := by
  have := fzO_own eC k m (markG g t).bk
  rwa [show (markG g t).bk.length = g.bk.length by simp [markG]] at this
end Go.Ab
