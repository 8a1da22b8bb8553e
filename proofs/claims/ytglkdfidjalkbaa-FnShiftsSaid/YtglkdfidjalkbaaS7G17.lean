/- What the functions of the program answer, for all arguments that the theorems name as conditions. -/
import Derived.Test.YtglkdfidjalkbaaS7G1b
import Derived.Test.YtglkdfidjalkbaaS7G17a
import Derived.Test.YtglkdfidjalkbaaS7G16
namespace Go.Ab
set_option linter.unusedSimpArgs false
set_option linter.unusedVariables false
set_option maxHeartbeats 4000000

theorem pl_facts {g : GridT} {y x : Int} (hf : faultG g = 0) (hp : plB g.r g.w y x = true) : 0 ≤ y ∧ y < g.r ∧ 0 ≤ x ∧ x < g.w := by
  obtain ⟨r1, r2, w1, w2, _⟩ := grid_facts hf
  have e1 : IntKind.i64.wrap (g.r - 1) = g.r - 1 := wrap_i64 (by omega) (by omega)
  have e2 : IntKind.i64.wrap (g.w - 1) = g.w - 1 := wrap_i64 (by omega) (by omega)
  simp [plB, e1, e2, inB] at hp
  omega
def shG (g : GridT) (y x n z : Int) : GridT := ⟨g.r, g.w, shL g.cs (y * g.w + x).toNat (g.w - x).toNat n ⟨32, z⟩, g.bk⟩
def okSh (g : GridT) (y x n z : Int) : Bool := plB g.r g.w y x && (inB n (-12) 12 && atB z)
theorem sh_facts {g : GridT} {y x n z : Int} (hf : faultG g = 0) (ho : okSh g y x n z = true) : ∃ A W X : Nat, g.w = W ∧ x = X ∧ X < W ∧ y * g.w = A ∧ A + W ≤ g.cs.length ∧ g.cs.length ≤ 72 ∧ W ≤ 12 ∧ -12 ≤ n ∧ n ≤ 12 ∧ 0 ≤ y ∧ y < g.r ∧ IntKind.i64.wrap (y * g.w) = (A : Nat) ∧ IntKind.i64.wrap ((A : Int) + x) = ((A + X : Nat) : Int) ∧ IntKind.i64.wrap (y + 1) = y + 1 ∧ IntKind.i64.wrap ((y + 1) * g.w) = ((A + W : Nat) : Int) ∧ (y * g.w + x).toNat = A + X ∧ (g.w - x).toNat = W - X := by
  unfold okSh at ho
  simp only [Bool.and_eq_true, inB, decide_eq_true_eq] at ho
  obtain ⟨hp, hn, ha⟩ := ho
  obtain ⟨y0, y1, x0, x1⟩ := pl_facts hf hp
  obtain ⟨A, W, hW, hA, m4, m5, W1, W2, A1, e1, e2, e3⟩ := row_of hf y0 y1
  have := (grid_facts hf).2.2.2.2.2.1
  obtain ⟨X, hX⟩ := Int.eq_ofNat_of_zero_le x0
  refine ⟨A, W, X, hW, hX, by omega, hA, m5, this, W1, hn.1, hn.2, y0, y1, e1, ?_, e2, e3, by omega, by omega⟩
  rw [wrap_i64 (by omega) (by omega), hX]
  simp
theorem s_impl_Grid_shift (g : GridT) (y x n z : Int) (bv : Value) (bm : Mem) (hf : faultG g = 0) (ho : okSh g y x n z = true) (hb : BK g.bk 2 bv bm) : X_impl_Grid_shift [ptr 0, .int .i64 y, .int .i64 x, .int .i64 n, .int .i64 z] (blk [.int .i64 g.r, .int .i64 g.w, slO 1 g.cs.length, bv] :: ownB eC g.cs :: bm) = some (.tuple #[], blk [.int .i64 g.r, .int .i64 g.w, slO 1 g.cs.length, bv] :: ownB eC (shG g y x n z).cs :: bm) := by
  obtain ⟨A, W, X, hW, hX, x1, hA, l1, l2, W1, n0, n1, y0, y1, e1, e2, e3, e4, e5, e6⟩ := sh_facts hf ho
  have s1 := fun m (hm : esOf m 1 = some 2) => sl_own (m := m) (sz := 2) (n := 1) (o := 0) (len := g.cs.length) (c := g.cs.length) (lo := some (.int .i64 (A + X : Nat))) (hi := some (.int .i64 (A + W : Nat))) hm (bnd_nat _ _ _) (bnd_nat _ _ _) (by omega) (by omega) (by omega)
  have hmv := s_moved g.cs (A + X) (A + W - (A + X)) (g.cs.length - (A + X)) n z (by omega) (by omega) (by omega) (by omega)
  have e7 : A + W - (A + X) = W - X := by omega
  have e8 : A + X + (W - X) = A + W := by omega
  have ecs : (shG g y x n z).cs = g.cs.take (A + X) ++ mvL ((g.cs.drop (A + X)).take (W - X)) n ⟨32, z⟩ ++ g.cs.drop (A + W) := by simp only [shG, shL, e5, e6, e8]
  rw [e7, e8, ← ecs] at hmv
  simp only [e7] at s1
  simp only [Nat.zero_add] at s1
  generalize (shG g y x n z).cs = cs' at *
  generalize A + X = P at *
  generalize A + W = Q at *
  rcases hb with ⟨rfl, rfl⟩ | ⟨rfl, rfl, _⟩ <;> simp (maxSteps := 400000) -implicitDefEqProofs [X_impl_Grid_shift, retK_eq, e1, e2, e3, e4, s1, hmv, esOf]
theorem s_impl_ShiftCells_1 (g : GridT) (y x n z : Int) : X_impl_ShiftCells_1 [gridP g [], roP [.int .i64 y], roP [.int .i64 x], roP [.int .i64 n], roP [.int .i64 z]] [] = some (.bool (okSh g y x n z), []) := by
  have c1 := s_impl_Grid_isPlace g y x
  cases h : plB g.r g.w y x <;> cases h2 : inB n (-12) 12 <;> simp (maxSteps := 1000000) -implicitDefEqProofs [X_impl_ShiftCells_1, retK_eq, c1, s_impl_in, s_impl_isAttr, h, h2, okSh]
theorem s_impl_ShiftCells_2 (g : GridT) (y x n z : Int) (bv : Value) (bm : Mem) (hf : faultG g = 0) (ho : okSh g y x n z = true) (hb : BK g.bk 6 bv bm) : X_impl_ShiftCells_2 [ptr 0, ptr 1, ptr 2, ptr 3, ptr 4] (blk [.int .i64 g.r, .int .i64 g.w, slO 5 g.cs.length, bv] :: blk [.int .i64 y] :: blk [.int .i64 x] :: blk [.int .i64 n] :: blk [.int .i64 z] :: ownB eC g.cs :: bm) = some (.tuple #[], blk [.int .i64 g.r, .int .i64 g.w, slO 5 g.cs.length, bv] :: blk [.int .i64 y] :: blk [.int .i64 x] :: blk [.int .i64 n] :: blk [.int .i64 z] :: ownB eC (shG g y x n z).cs :: bm) := by
  rcases hb with ⟨rfl, rfl⟩ | ⟨rfl, rfl, hb0⟩
  · have ha := s_impl_Grid_shift g y x n z _ _ hf ho (.inl ⟨rfl, rfl⟩)
    simp (maxSteps := 1000000) -implicitDefEqProofs [X_impl_ShiftCells_2, retK_eq, ha]
  · have ha := s_impl_Grid_shift g y x n z _ _ hf ho (.inr ⟨rfl, rfl, hb0⟩)
    simp (maxSteps := 1000000) -implicitDefEqProofs [X_impl_ShiftCells_2, retK_eq, ha]
end Go.Ab
