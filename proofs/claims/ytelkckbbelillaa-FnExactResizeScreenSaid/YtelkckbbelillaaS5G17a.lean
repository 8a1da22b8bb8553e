/- What the functions of the program answer, for all arguments that the theorems name as conditions. -/
import Derived.Test.YtelkckbbelillaaS5G16a
namespace Go.Ab
set_option linter.unusedSimpArgs false
set_option linter.unusedVariables false
set_option maxHeartbeats 4000000

/-! ## Rows of a right grid -/
theorem grid_facts {g : GridT} (hf : faultG g = 0) : 1 ≤ g.r ∧ g.r ≤ 6 ∧ 2 ≤ g.w ∧ g.w ≤ 12 ∧ (g.cs.length : Int) = g.r * g.w ∧ g.cs.length ≤ 72 ∧ g.bk.length ≤ 60 ∧ 0 < g.cs.length ∧ (g.bk.length : Int) ≤ 5 * g.w ∧ Int.tmod g.bk.length g.w = 0 ∧ allC g.cs = true ∧ allC g.bk = true := by
  have hs := szB_of hf
  have hb := szB_b hs
  unfold faultG at hf
  rw [if_pos hs] at hf
  split at hf
  · rename_i hh
    unfold formG at hh
    simp at hh
    obtain ⟨h1, h2, h3⟩ := hh
    have m1 := mul_le (r := g.r) (w := g.w) (a := 6) (b := 12) (by omega) (by omega) (by omega) (by omega)
    have m2 : 1 * 2 ≤ g.r * g.w := Int.mul_le_mul (by omega) (by omega) (by omega) (by omega)
    split at hf
    · rename_i ha
      simp at ha
      exact ⟨by omega, by omega, by omega, by omega, h1, by omega, by omega, by omega, h2, h3, ha.1, ha.2⟩
    · cases hf
  · cases hf
theorem row_of {g : GridT} {y : Int} (hf : faultG g = 0) (h0 : 0 ≤ y) (h1 : y < g.r) : ∃ A W : Nat, g.w = W ∧ y * g.w = A ∧ (y + 1) * g.w = ((A + W : Nat) : Int) ∧ A + W ≤ g.cs.length ∧ W ≤ 12 ∧ 2 ≤ W ∧ A ≤ 72 ∧ IntKind.i64.wrap (y * g.w) = (A : Nat) ∧ IntKind.i64.wrap (y + 1) = y + 1 ∧ IntKind.i64.wrap ((y + 1) * g.w) = ((A + W : Nat) : Int) := by
  obtain ⟨r1, r2, w1, w2, hl, l1, l2, l3, _⟩ := grid_facts hf
  obtain ⟨W, hW⟩ := Int.eq_ofNat_of_zero_le (show 0 ≤ g.w by omega)
  have m1 := mul_le (r := y) (w := g.w) (a := 6) (b := 12) (by omega) (by omega) (by omega) (by omega)
  obtain ⟨A, hA⟩ := Int.eq_ofNat_of_zero_le m1.1
  have m2 : (y + 1) * g.w ≤ g.r * g.w := Int.mul_le_mul_of_nonneg_right (by omega) (by omega)
  have m3 : (y + 1) * g.w = y * g.w + g.w := by rw [Int.add_mul, Int.one_mul]
  have m4 : (y + 1) * g.w = ((A + W : Nat) : Int) := by rw [m3, hA, hW]; simp
  refine ⟨A, W, hW, hA, m4, by omega, by omega, by omega, by omega, ?_, ?_, ?_⟩
  · rw [hA, wrap_i64 (by omega) (by omega)]
  · rw [wrap_i64 (by omega) (by omega)]
  · rw [m4, wrap_i64 (by omega) (by omega)]
/-- What lies behind: nothing, or cells in a block. -/
def BK (l : List CellT) (a : Nat) (v : Value) (m : Mem) : Prop := (v = slO a l.length ∧ m = [ownB eC l]) ∨ (v = roS 0 [] ∧ m = [] ∧ l = [])

/-! ## Shifting -/
def shL (l : List CellT) (a k : Nat) (n : Int) (z : CellT) : List CellT := l.take a ++ mvL ((l.drop a).take k) n z ++ l.drop (a + k)
theorem shL_len (l : List CellT) (a k : Nat) (n : Int) (z : CellT) (h : a + k ≤ l.length) : (shL l a k n z).length = l.length := by simp [shL]; omega
end Go.Ab
