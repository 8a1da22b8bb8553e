/- What the functions of the program answer, for all arguments that the theorems name as conditions. -/
import Derived.Test.YtcfjcghbinnngaaS14Ma
set_option linter.unusedVariables false
set_option linter.unusedSimpArgs false
namespace Go.Ab
set_option maxHeartbeats 4000000
theorem apB_pre {m : Mem} {n : Nat} {c j : List Int} {cs : List Value} {k : Nat} : apB m (some (ownB eU8 (c ++ j))) n 0 c.length 1 cs k = some (slO m.length (c.length + k), m.set n ⟨cellsE eU8 (c ++ j), 1, true, false⟩ ++ [⟨cellsE eU8 c ++ cs, 1, true, true⟩]) := by
  unfold apB
  have hr : fzO.rdB (ownB eU8 (c ++ j)) 0 (c.length * 1) = some (cellsE eU8 c) := by
    have e : (ownB eU8 (c ++ j)).cells = cellsE eU8 c ++ cellsE eU8 j := cellsE_append _ _ _
    have el : (cellsE eU8 c).length = c.length * 1 := by rw [cellsE_len]; rfl
    unfold fzO.rdB
    rw [e]
    split
    · rename_i h
      have : cellsE eU8 c = [] := List.eq_nil_of_length_eq_zero (by rw [el]; exact h)
      rw [this]
    · rw [if_pos ⟨rfl, by rw [List.length_append, el]; omega⟩, List.drop_zero, ← el, List.take_left]
  simp only
  rw [if_pos ⟨rfl, rfl, rfl⟩, hr, ob_some]
  rfl
theorem u8_app (c : List Int) (b : Int) : (⟨cellsE eU8 c ++ [.int .u8 b], 1, true, true⟩ : Blk) = ownB eU8 (c ++ [b]) := by
  rw [← mk_own2 eU8 _ _ 1 rfl]
  rfl
end Go.Ab
namespace Go.Ab
set_option maxHeartbeats 4000000
def cont (b : Int) : Bool := decide (128 ≤ b) && decide (b ≤ 191)
def laF (c : List Int) : Nat → Nat
  | 0 => 0
  | n + 1 => if cont (gt c (n + 1)) then laF c n else n + 1
theorem laF_le (c : List Int) (n : Nat) : laF c n ≤ n := by
  induction n with
  | zero => exact Nat.le_refl _
  | succ n ih =>
    rw [laF]
    split
    · omega
    · exact Nat.le_refl _
abbrev laE (c : List Int) : Nat := laF c (c.length - 1)
theorem laE_lt {c : List Int} (h : c ≠ []) : laE c < c.length := by
  have : laE c ≤ c.length - 1 := laF_le c (c.length - 1)
  have := List.length_pos_iff.2 h
  omega
def drO (w : WayT) (c : List Int) : List Int := if !(hs w 2) || !(hs w 4) then [] else if hs w 16 && hid (gt c (laE c)) then [8, 32, 8, 8, 32, 8] else [8, 32, 8]
end Go.Ab
namespace Go.Ab
set_option maxHeartbeats 4000000
def dwS (w : WayT) (p : Int → Bool) : Nat → List Int → List Int × List Int
  | 0, c => (c, [])
  | n + 1, c => if c ≠ [] ∧ p (gt c (c.length - 1)) = true then ((dwS w p n (c.take (laE c))).1, drO w c ++ (dwS w p n (c.take (laE c))).2) else (c, [])
theorem drO_len (w : WayT) (c : List Int) : (drO w c).length ≤ 6 := by
  unfold drO
  split
  · simp
  · split <;> simp
theorem dwS_len (w : WayT) (p : Int → Bool) : ∀ (n : Nat) (c : List Int), (dwS w p n c).1.length ≤ c.length ∧ (dwS w p n c).2.length ≤ 6 * n
  | 0, c => by simp [dwS]
  | n + 1, c => by
    rw [dwS]
    split
    · have := dwS_len w p n (c.take (laE c))
      have h2 := drO_len w c
      simp only [List.length_append]
      refine ⟨Nat.le_trans this.1 (by simp; omega), by omega⟩
    · simp
theorem dwS_stop (w : WayT) (p : Int → Bool) (n : Nat) (c : List Int) (h : ¬ (c ≠ [] ∧ p (gt c (c.length - 1)) = true)) : dwS w p n c = (c, []) := by
  cases n with
  | zero => rfl
  | succ n => rw [dwS, if_neg h]
end Go.Ab
namespace Go.Ab
set_option maxHeartbeats 4000000
end Go.Ab
namespace Go.Ab
set_option maxHeartbeats 4000000
end Go.Ab
namespace Go.Ab
set_option maxHeartbeats 4000000
def wordS (w : WayT) (c : List Int) : List Int × List Int :=
  ((dwS w (fun b => decide (¬ b = 32)) c.length (dwS w (fun b => decide (b = 32)) c.length c).1).1, (dwS w (fun b => decide (b = 32)) c.length c).2 ++ (dwS w (fun b => decide (¬ b = 32)) c.length (dwS w (fun b => decide (b = 32)) c.length c).1).2)
end Go.Ab
namespace Go.Ab
set_option maxHeartbeats 4000000
end Go.Ab
