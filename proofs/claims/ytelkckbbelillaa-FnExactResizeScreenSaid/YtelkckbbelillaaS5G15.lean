/- What the functions of the program answer, for all arguments that the theorems name as conditions. -/
import Derived.Test.YtelkckbbelillaaS5G11
namespace Go.Ab
set_option linter.unusedSimpArgs false
set_option linter.unusedVariables false
set_option maxHeartbeats 4000000

/-! ## slices.Grow, slices.Concat of two, moving cells -/
@[simp] theorem slX_noneZ (m : Mem) (sz : Nat) (k : IntKind) : slX m sz (.slice none 0 0) none (some (.int k 0)) = some (.slice none 0 0) := by
  simp [slX, bndX]
theorem apI_none {m : Mem} {sz bytes : Nat} {zero : List Value} {n : Nat} (h0 : 0 < n) (h1 : n < 1000000000) (hb : bytes ≤ 100000) : apI m sz bytes zero (.slice none 0 0) (.int .i64 n) = some (.slice (some ⟨m.length, 0, none⟩) n n, m ++ [⟨(List.replicate n zero).flatten, sz, true, true⟩]) := by
  have h2 : n * bytes ≤ 140737488355328 := Nat.le_trans (Nat.mul_le_mul (Nat.le_of_lt h1) hb) (by omega)
  show (if (0 : Int) ≤ (n : Int) ∧ (n : Int) ≤ 140737488355328 then appendIn m sz bytes (.slice none 0 0) (List.replicate (n : Int).toNat zero).flatten (n : Int).toNat else none) = _
  rw [if_pos ⟨by omega, by omega⟩, Int.toNat_natCast]
  unfold appendIn
  rw [if_neg (by omega), if_pos ⟨h2, by omega⟩]
  rfl
theorem s_GrowC (n : Nat) (h0 : 0 < n) (h1 : n < 1000000000) : X_slices_Grow_impl_Cell_impl_Cell [.slice none 0 0, .int .i64 n] [] = some (.slice (some ⟨0, 0, none⟩) 0 n, [ownB eC (List.replicate n ⟨0, 0⟩)]) := by
  have w1 : IntKind.i64.wrap 0 = 0 := wrap_i64 (by omega) (by omega)
  have w2 : IntKind.i64.wrap n = n := wrap_i64 (by omega) (by omega)
  have a1 := fun m => apI_none (m := m) (sz := 2) (bytes := 16) (zero := [.int .i64 0, .int .i64 0]) h0 h1 (by omega)
  have f1 : (List.replicate n [Value.int .i64 0, .int .i64 0]).flatten = cellsE eC (List.replicate n ⟨0, 0⟩) := flat_rep eC n ⟨0, 0⟩
  have s1 := sl_own (m := [ownB eC (List.replicate n ⟨0, 0⟩)]) (sz := 2) (n := 0) (o := 0) (len := n) (c := n) (a := 0) (b := 0) (lo := none) (hi := some (.int .i64 0)) rfl rfl (by simp [bndX]) (by omega) (by omega) h0
  have hn : ¬ (n : Int) < 0 := by omega
  simp at s1
  simp -implicitDefEqProofs [X_slices_Grow_impl_Cell_impl_Cell, retK_eq, w1, w2, a1, f1, s1, h0, hn]
abbrev two (a b : List CellT) : Value := roS 2 [frS eC a, frS eC b]
@[simp] theorem fz_two (k : Nat) (m : Mem) (x y : Value) : fzO k m (some ⟨[x, y], 1, true, true⟩) 0 2 = bo (fun a => bo (fun b => some (roS 2 [a, b])) (fz k m y)) (fz k m x) := by
  show (ob (mapO (fz k m) [x, y]) fun xs => some (roS 2 xs)) = _
  simp
  cases fz k m x with
  | none => rfl
  | some a => cases fz k m y <;> rfl
theorem ixa_two0 (a b : List CellT) : ixaX 1 (two a b) (.int .i64 0) = some (roP [frS eC a]) := rfl
theorem ixa_two1 (a b : List CellT) : ixaX 1 (two a b) (.int .i64 1) = some (roP [frS eC b]) := rfl
theorem apB_own0 {α : Type} {E : Enc α} {m : Mem} {l : List α} {n sz : Nat} {cs : List Value} {k : Nat} (hs : sz = E.sz) : apB m (some (ownB E l)) n 0 0 sz cs k = some (.slice (some ⟨m.length, 0, none⟩) k k, m.set n ⟨cellsE E l, E.sz, true, false⟩ ++ [⟨cs, sz, true, true⟩]) := by
  subst hs
  unfold apB
  simp
theorem s_ConcatC (a b : List CellT) (h0 : 0 < a.length + b.length) (h1 : a.length + b.length < 1000000000) : X_slices_Concat_impl_Cell_impl_Cell [two a b] [] = some (slO 0 (a.length + b.length), [ownB eC (a ++ b)]) := by
  have w0 : IntKind.i64.wrap (a.length : Int) = a.length := wrap_i64 (by omega) (by omega)
  have w1 : IntKind.i64.wrap ((a.length : Int) + b.length) = (a.length : Int) + b.length := wrap_i64 (by omega) (by omega)
  have w2 : IntKind.i64.wrap 1 = 1 := wrap_i64 (by omega) (by omega)
  have w3 : IntKind.i64.wrap 2 = 2 := wrap_i64 (by omega) (by omega)
  have g := s_GrowC (a.length + b.length) h0 h1
  rw [Int.natCast_add] at g
  have p1 := fun m n c => apL_frS (E := eC) (m := m) (sz := 2) (bytes := 16) (n := n) (o := 0) (len := 0) (c := c) (l := a) rfl (by omega) (by omega)
  have p2 := fun m n c => apL_frS (E := eC) (m := m) (sz := 2) (bytes := 16) (n := n) (o := 0) (len := a.length) (c := c) (l := b) rfl (by omega) (by omega)
  have p3 := fun m n cs k => apB_own (E := eC) (m := m) (l := a) (n := n) (sz := 2) (cs := cs) (k := k) rfl
  have z0 := fun m n l cs k => apB_own0 (E := eC) (m := m) (l := l) (n := n) (sz := 2) (cs := cs) (k := k) rfl
  have n0 : ¬ (a.length : Int) < 0 := by omega
  have n1 : ¬ ((a.length : Int) + b.length) < 0 := by omega
  obtain ⟨q, hq⟩ : ∃ q, QQ = q + 1 + 1 + 1 + 1 + 1 + 1 := ⟨QQ - 6, by unfold QQ; omega⟩
  simp -implicitDefEqProofs [X_slices_Concat_impl_Cell_impl_Cell, retK_eq, cutK_eq, hq]
  simp (maxSteps := 400000) -implicitDefEqProofs [L_slices_Concat_impl_Cell_impl_Cell, retK_eq, cutK_eq, ixa_two0, ixa_two1, w0, w1, w2, w3, g, p1, p2, p3, z0, n0, n1]
end Go.Ab
