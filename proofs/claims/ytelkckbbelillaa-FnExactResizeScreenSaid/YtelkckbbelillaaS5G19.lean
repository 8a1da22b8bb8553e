/- What the functions of the program answer, for all arguments that the theorems name as conditions. -/
import Derived.Test.YtelkckbbelillaaFC
import Derived.Test.YtelkckbbelillaaS5G17a
namespace Go.Ab
set_option linter.unusedSimpArgs false
set_option linter.unusedVariables false
set_option maxHeartbeats 4000000

/-! ## Rows of the specification -/
theorem s_spec_l3RowOf (g : GridT) (y : Int) (A W : Nat) (h1 : IntKind.i64.wrap (y * g.w) = (A : Nat)) (h2 : IntKind.i64.wrap (y + 1) = y + 1) (h3 : IntKind.i64.wrap ((y + 1) * g.w) = ((A + W : Nat) : Int)) (hl : A + W ≤ g.cs.length) (hs : g.cs.length < 1000000000) (rest : List Value) : X_spec_l3RowOf [gridP g rest, .int .i64 y] [] = some (slO 0 W, [ownB eC ((g.cs.drop A).take W)]) := by
  have s1 := fun m => sl_frS eC m (sz := 2) rfl (l := g.cs) (lo := some (.int .i64 (A : Nat))) (hi := some (.int .i64 (A + W : Nat))) (bnd_nat _ _ _) (bnd_nat _ _ _) (by omega) hl
  rw [Nat.add_sub_cancel_left] at s1
  have hlen : ((g.cs.drop A).take W).length = W := by rw [List.length_take, List.length_drop]; omega
  have p1 := fun m n c => apL_frS (E := eC) (m := m) (sz := 2) (bytes := 16) (n := n) (o := 0) (len := 0) (c := c) (l := (g.cs.drop A).take W) rfl (by omega) (by omega)
  generalize (g.cs.drop A).take W = row at *
  generalize A + W = Q at *
  simp (maxSteps := 400000) -implicitDefEqProofs [X_spec_l3RowOf, retK_eq, h1, h2, h3, s1, p1, hlen]
theorem s_spec_l3Row (g : GridT) (y : Int) (row : List CellT) (A W : Nat) (h1 : IntKind.i64.wrap (y * g.w) = (A : Nat)) (h2 : IntKind.i64.wrap (y + 1) = y + 1) (h3 : IntKind.i64.wrap ((y + 1) * g.w) = ((A + W : Nat) : Int)) (hl : A + W ≤ g.cs.length) (hW : 0 < W) (hr : row.length = W) : X_spec_l3Row [ptr 0, .int .i64 y, slO 1 W] [blk [.int .i64 g.r, .int .i64 g.w, slO 2 g.cs.length, slO 3 g.bk.length], ownB eC row, ownB eC g.cs, ownB eC g.bk] = some (.tuple #[], [blk [.int .i64 g.r, .int .i64 g.w, slO 2 g.cs.length, slO 3 g.bk.length], ownB eC row, ownB eC (g.cs.take A ++ row ++ g.cs.drop (A + W)), ownB eC g.bk]) := by
  have s1 := sl_own (m := [blk [.int .i64 g.r, .int .i64 g.w, slO 2 g.cs.length, slO 3 g.bk.length], ownB eC row, ownB eC g.cs, ownB eC g.bk]) (sz := 2) (n := 2) (o := 0) (len := g.cs.length) (c := g.cs.length) (lo := some (.int .i64 (A : Nat))) (hi := some (.int .i64 (A + W : Nat))) rfl (bnd_nat _ _ _) (bnd_nat _ _ _) (by omega) hl (by omega)
  have hc := cpL_own eC (m := [blk [.int .i64 g.r, .int .i64 g.w, slO 2 g.cs.length, slO 3 g.bk.length], ownB eC row, ownB eC g.cs, ownB eC g.bk]) (sz := 2) (n := 2) (n2 := 1) (a := A) (a2 := 0) (dl := W) (sl := W) (c := g.cs.length - A) (c2 := W) (l := g.cs) (l2 := row) rfl rfl rfl hl (by omega)
  simp only [Nat.add_sub_cancel_left, Nat.zero_add] at s1
  simp only [List.drop_zero, Nat.min_self, List.take_of_length_le (Nat.le_of_eq hr), Nat.zero_mul] at hc
  generalize g.cs.take A ++ row ++ g.cs.drop (A + W) = cs' at *
  generalize A + W = Q at *
  simp at hc
  simp (maxSteps := 400000) -implicitDefEqProofs [X_spec_l3Row, retK_eq, h1, h2, h3, s1, hc]
def shRow (was : List CellT) (x : Nat) (n : Int) (z : CellT) : List CellT := was.take x ++ mvL (was.drop x) n z
theorem shRow_len (was : List CellT) (x : Nat) (n : Int) (z : CellT) (h : x ≤ was.length) : (shRow was x n z).length = was.length := by simp [shRow]; omega
theorem shRow_get (was : List CellT) (x : Nat) (n : Int) (z : CellT) (i : Nat) (h0 : x ≤ i) (h1 : i < was.length) : (shRow was x n z)[i]'(by rw [shRow_len _ _ _ _ (by omega)]; exact h1) = if (x : Int) ≤ (i : Int) - n ∧ (i : Int) - n < was.length then gt was ((i : Int) - n).toNat else z := by
  unfold shRow
  rw [List.getElem_append_right (by simp; omega)]
  have e : i - (was.take x).length = i - x := by simp; omega
  simp only [e]
  rw [mvL_get _ _ _ _ (by simp; omega)]
  simp only [List.length_drop]
  by_cases h : (x : Int) ≤ (i : Int) - n ∧ (i : Int) - n < was.length
  · rw [if_pos h, if_pos (by omega), gt_lt (by simp; omega), gt_lt (by omega), List.getElem_drop]
    congr 1
    omega
  · rw [if_neg h, if_neg (by omega)]
theorem mix_set {α : Type} (a b : List α) (i : Nat) (v : α) (h : i < a.length) (h2 : a.length = b.length) (hv : a[i] = v) : (a.take i ++ b.drop i).set i v = a.take (i + 1) ++ b.drop (i + 1) := by
  subst hv
  have e : (a.take i).length = i := by simp; omega
  rw [List.set_append_right _ _ (by omega), e, Nat.sub_self, List.drop_eq_getElem_cons (by omega), List.set_cons_zero, List.take_succ_eq_append_getElem h, List.append_assoc]
  rfl
end Go.Ab
