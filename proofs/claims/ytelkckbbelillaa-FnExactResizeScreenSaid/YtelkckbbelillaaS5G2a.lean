/- What the functions of the program answer, for all arguments that the theorems name as conditions. -/
import Derived.Test.YtelkckbbelillaaS5G2
namespace Go.Ab
set_option linter.unusedSimpArgs false
set_option linter.unusedVariables false
set_option maxHeartbeats 4000000

theorem szN_le {n : Nat} {x : Int} (h : x ≤ 1048576) : szN n x ≤ 1048576 := by unfold szN; split <;> omega
theorem szl_le {g : GridT} {x : Int} (h : x ≤ 1048576) : g.szl x ≤ 1048576 := by
  unfold GridT.szl
  have := szN_le (n := g.bk.length) (szN_le (n := g.cs.length) h)
  split
  · omega
  · split <;> omega
def GridT.fit (g : GridT) : Prop := g.cs.length ≤ 9223372036854775807 ∧ g.bk.length ≤ 9223372036854775807
theorem szN_small {n : Nat} {x : Int} (hx : x ≤ 1048576) (h : 0 ≤ szN n x) : n < 1000000000 := by
  unfold szN at h; split at h <;> omega
theorem szl_small {g : GridT} {x : Int} (hx : x ≤ 1048576) (h : ¬ g.szl x < 0) : g.small := by
  unfold GridT.szl at h
  split at h
  · omega
  · rename_i h1
    split at h
    · omega
    · rename_i h2
      exact ⟨szN_small (x := x) hx (by omega), szN_small (x := szN g.cs.length x) (szN_le hx) (by omega)⟩
end Go.Ab
