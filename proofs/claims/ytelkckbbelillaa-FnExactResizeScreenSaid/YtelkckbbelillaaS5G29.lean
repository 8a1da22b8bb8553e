/- What the functions of the program answer, for all arguments that the theorems name as conditions. -/
import Derived.Test.YtelkckbbelillaaS5G17a
import Derived.Test.YtelkckbbelillaaS5G15
namespace Go.Ab
set_option linter.unusedSimpArgs false
set_option linter.unusedVariables false
set_option maxHeartbeats 8000000

/-! ## Rows of another width -/
def rowFit (row : List CellT) (v : Nat) : List CellT := (row ++ List.replicate (v - row.length) bl0).take v
theorem rowFit_len (row : List CellT) (v : Nat) : (rowFit row v).length = v := by simp [rowFit]; omega
def widN (w v : Nat) : Nat → List CellT → List CellT
  | 0, _ => []
  | k + 1, l => rowFit (l.take w) v ++ widN w v k (l.drop w)
theorem widN_len (w v : Nat) : ∀ (k : Nat) (l : List CellT), (widN w v k l).length = k * v
  | 0, l => by simp [widN]
  | k + 1, l => by rw [widN, List.length_append, rowFit_len, widN_len w v k, Nat.succ_mul, Nat.add_comm]
theorem widN_row (w v : Nat) : ∀ (k : Nat) (l : List CellT) (y : Nat), y < k → ((widN w v k l).drop (y * v)).take v = rowFit ((l.drop (y * w)).take w) v
  | 0, l, y, h => by omega
  | k + 1, l, 0, h => by rw [widN, Nat.zero_mul, Nat.zero_mul, List.drop_zero, List.drop_zero, List.take_left' (rowFit_len _ _)]
  | k + 1, l, y + 1, h => by
    rw [widN, Nat.succ_mul, Nat.succ_mul, Nat.add_comm (y * v), ← List.drop_drop, List.drop_left' (rowFit_len _ _), widN_row w v k _ y (by omega), List.drop_drop, Nat.add_comm w]
theorem l_widened (w v : Nat) (hw : 2 ≤ w) (hw2 : w ≤ 12) (hv : 2 ≤ v) (hv2 : v ≤ 12) : ∀ (k : Nat) (l o : List CellT) (q : Nat), l.length = k * w → o.length + k * v < 100000 → k < q → L_impl_widened 0 q 0 [frS eC l, .int .i64 w, .int .i64 v, slO 0 o.length] [ownB eC o] = some (slO 0 (o.length + k * v), [ownB eC (o ++ widN w v k l)]) := by
  intro k
  induction k with
  | zero =>
    intro l o q hl ho hq
    obtain ⟨q, rfl⟩ : ∃ n, q = n + 1 := ⟨q - 1, by omega⟩
    have : l = [] := List.eq_nil_of_length_eq_zero (by simpa using hl)
    subst this
    simp -implicitDefEqProofs [L_impl_widened, retK_eq, widN]
  | succ k ih =>
    intro l o q hl ho hq
    obtain ⟨q, rfl⟩ : ∃ n, q = n + 1 := ⟨q - 1, by omega⟩
    rw [Nat.succ_mul] at hl ho
    have hfl := rowFit_len (l.take w) v
    have h := ih (l.drop w) (o ++ rowFit (l.take w) v) q (by rw [List.length_drop]; omega) (by rw [List.length_append, hfl]; omega) (by omega)
    rw [List.length_append, hfl, List.append_assoc, ← widN, show o.length + v + k * v = o.length + (k + 1) * v by rw [Nat.succ_mul]; omega] at h
    generalize widN w v (k + 1) l = WL at *
    have hlen : (l.take w).length = w := by rw [List.length_take]; omega
    have s1 := fun m => sl_frS eC m (sz := 2) rfl (l := l) (lo := none) (hi := some (.int .i64 (w : Nat))) rfl (bnd_nat _ _ _) (by omega) (by omega)
    have s2 := fun m => sl_frS eC m (sz := 2) rfl (l := l) (lo := some (.int .i64 (w : Nat))) (hi := none) (bnd_nat _ _ _) rfl (by omega) (by omega)
    have e2 : (l.drop w).take (l.length - w) = l.drop w := List.take_of_length_le (by rw [List.length_drop]; omega)
    rw [e2] at s2
    simp only [List.drop_zero, Nat.sub_zero] at s1
    have hpos : (0 : Int) < (l.length : Int) := by omega
    have hpos' : 0 < l.length := by omega
    obtain ⟨f, hf⟩ : ∃ f : Nat, f = v - w := ⟨_, rfl⟩
    have wv : IntKind.i64.wrap ((v : Int) - w) = (v : Int) - w := wrap_i64 (by omega) (by omega)
    have hm : max ((v : Int) - w) 0 = (f : Nat) := by omega
    have hb := s_blanks 0 f (by omega)
    have hfr := fun j m => fzO_own eC j m (List.replicate f (⟨32, 0⟩ : CellT))
    simp only [List.length_replicate] at hfr
    have cc := s_ConcatC (l.take w) (List.replicate f ⟨32, 0⟩) (by omega) (by simp; omega)
    simp only [two, hlen, List.length_replicate] at cc
    have s3 := fun m (hm : esOf m 3 = some 2) => sl_own (m := m) (sz := 2) (n := 3) (o := 0) (len := w + f) (c := w + f) (lo := none) (hi := some (.int .i64 (v : Nat))) hm rfl (bnd_nat _ _ _) (by omega) (by omega) (by omega)
    simp only [Nat.sub_zero, Nat.zero_mul, Nat.add_zero] at s3
    have p1 := fun m n k c c2 => apL_sl (m := m) (sz := 2) (bytes := 16) (n := n) (o := 0) (len := o.length) (c := c) (n2 := k) (o2 := 0) (len2 := v) (c2 := c2) (by omega) (by omega)
    have p2 : rdM (some (ownB eC (l.take w ++ List.replicate f ⟨32, 0⟩))) 0 (v * 2) = some (cellsE eC (rowFit (l.take w) v)) := by
      have := rd_own eC (m := [ownB eC (l.take w ++ List.replicate f bl0)]) (n := 0) (a := 0) (k := v) (l := l.take w ++ List.replicate f bl0) rfl (by simp; omega)
      rw [rd_rdM, Nat.zero_mul] at this
      refine this.trans ?_
      unfold rowFit
      rw [hlen, ← hf, List.drop_zero]
    have p3 := fun m n cs k => apB_own (E := eC) (m := m) (l := o) (n := n) (sz := 2) (cs := cs) (k := k) rfl
    generalize l.take w = row at *
    generalize rowFit row v = fit at *
    simp (maxSteps := 400000) -implicitDefEqProofs [L_impl_widened, retK_eq, cutK_eq, hpos, hpos', s1, s2, wv, hm, hb, hfr, cc, s3, esOf, p1, p2, p3, h]
theorem s_widened (w v k : Nat) (l : List CellT) (hw : 2 ≤ w) (hw2 : w ≤ 12) (hv : 2 ≤ v) (hv2 : v ≤ 12) (hl : l.length = k * w) (hk : k ≤ 6) : X_impl_widened [frS eC l, .int .i64 w, .int .i64 v] [] = some (slO 0 (k * v), [ownB eC (widN w v k l)]) := by
  have m : k * v ≤ 6 * 12 := Nat.mul_le_mul hk hv2
  have h := l_widened w v hw hw2 hv hv2 k l [] QQ hl (by simp; omega) (by unfold QQ; omega)
  have e0 : (⟨[], 2, true, true⟩ : Blk) = ownB eC [] := rfl
  simp at h
  simp -implicitDefEqProofs [X_impl_widened, retK_eq, cutK_eq, e0, h]
end Go.Ab
