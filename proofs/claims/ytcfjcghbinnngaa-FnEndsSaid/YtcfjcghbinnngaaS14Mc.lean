/- What the functions of the program answer, for all arguments that the theorems name as conditions. -/
import Derived.Test.YtcfjcghbinnngaaS14Mb
set_option linter.unusedVariables false
set_option linter.unusedSimpArgs false
namespace Go.Ab
set_option maxHeartbeats 4000000
def gnO (w : WayT) (b : Int) (o : List Int) (k : Bool) : List Int := if hs w 4 then o else if k && (hs w 8 && hs w 2) then ecS w b ++ [10] else ecS w b
theorem ecS_len (w : WayT) (b : Int) : (ecS w b).length ≤ 2 := by
  unfold ecS shS
  split
  · split <;> simp
  · simp
end Go.Ab
namespace Go.Ab
set_option maxHeartbeats 4000000
def goneS (w : WayT) (c : List Int) (b : Int) : List Int × List Int :=
  if isS w.b b then (if c = [] then ([], gnO w b [] false) else (c.take (laE c), gnO w b (drO w c) false)) else if isS w.d b then ((wordS w c).1, gnO w b (wordS w c).2 false) else ((dwS w (fun _ => true) c.length c).1, gnO w b (dwS w (fun _ => true) c.length c).2 true)
end Go.Ab
namespace Go.Ab
set_option maxHeartbeats 4000000
theorem fz_00 (k : Nat) (m : Mem) (b : Option Blk) (o : Nat) : fzO k m b o 0 = some (roS 0 []) := by
  unfold fzO
  rw [if_pos rfl]
end Go.Ab
namespace Go.Ab
set_option maxHeartbeats 4000000
end Go.Ab
namespace Go.Ab
set_option maxHeartbeats 4000000
end Go.Ab
