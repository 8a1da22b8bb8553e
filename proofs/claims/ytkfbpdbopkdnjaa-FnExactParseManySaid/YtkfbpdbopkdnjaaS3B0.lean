/- What the functions of the program answer, for all arguments that the theorems name as conditions. -/
import Derived.Test.YtkfbpdbopkdnjaaXFnExactParseMany
import Derived.Test.YtkfbpdbopkdnjaaFD
namespace Go.Ab
set_option linter.unusedSimpArgs false
set_option linter.unusedVariables false
set_option maxHeartbeats 8000000

/-! ## Numbers, slices, blocks -/
abbrev eI6 : Enc Int := eI .i64
abbrev eU8 : Enc Int := eI .u8
abbrev slO (n l : Nat) : Value := .slice (some ⟨n, 0, none⟩) l l
abbrev ptr (n : Nat) : Value := .pointer (some ⟨n, 0, none⟩)
abbrev blk (l : List Value) : Blk := ⟨l, 0, true, true⟩
@[simp] theorem rn_hard_ro0 (k : Nat) (π : Nat → Option Nat) : rnV (k + 1) hard π (roS 0 []) = some (roS 0 []) := rnV_p rfl
@[simp] theorem hard_ro0 : hard (roS 0 []) = true := (rfl)
theorem lay_set {α : Type} (E : Enc α) (l : List α) (j : Nat) (x : α) (h : j < l.length) : lay (cellsE E l) (j * E.sz) (E.f x) = cellsE E (l.set j x) := by
  have e1 : l = l.take j ++ l[j] :: l.drop (j + 1) := by simp
  have e2 : l.set j x = l.take j ++ x :: l.drop (j + 1) := by rw [List.set_eq_take_append_cons_drop, if_pos h]
  have := lay_mid E (l.take j) l[j] (l.drop (j + 1)) x
  rw [← e1, ← e2, List.length_take, Nat.min_eq_left (by omega)] at this
  exact this
@[simp] theorem shB_eB (N k : Nat) (l : List Bool) : shB N k (ownB eB l) = some (ownB eB l) := shB_own eB eB_hard N k l
@[simp] theorem shB_eI (q : IntKind) (N k : Nat) (l : List Int) : shB N k (ownB (eI q) l) = some (ownB (eI q) l) := shB_own (eI q) (eI_hard q) N k l
@[simp] theorem mk_eB (n : Nat) : (⟨List.replicate n (Value.bool false), 1, true, true⟩ : Blk) = ownB eB (List.replicate n false) := by
  have := flat_rep eB n false
  simp at this
  rw [this]; rfl
@[simp] theorem mk_eI (q : IntKind) (n : Nat) : (⟨List.replicate n (Value.int q 0), 1, true, true⟩ : Blk) = ownB (eI q) (List.replicate n 0) := by
  have := flat_rep (eI q) n 0
  simp at this
  rw [this]; rfl
theorem wrap_one {t : Int} (h0 : 0 ≤ t) (h1 : t ≤ 1000000000000) : IntKind.i64.wrap (t + 1) = t + 1 ∧ IntKind.i64.wrap (t + 1 + 1) = t + 1 + 1 := ⟨wrap_i64 (by omega) (by omega), wrap_i64 (by omega) (by omega)⟩
theorem bnd_nat (k : IntKind) (i d : Nat) : bndX (some (.int k (i : Int))) d = some i := by
  show (if (0 : Int) ≤ (i : Int) then some (i : Int).toNat else none) = some i
  rw [if_pos (by omega)]
  simp
theorem lay_setI (k : IntKind) (l : List Int) (j : Nat) (x : Int) (h : j < l.length) : lay (cellsE (eI k) l) j [.int k x] = cellsE (eI k) (l.set j x) := by
  have := lay_set (eI k) l j x h
  simpa using this
theorem cellI (k : IntKind) (l : List Int) (j : Nat) (h : j < l.length) : (cellsE (eI k) l)[j]? = some (.int k (gt l j)) := by
  have := cell_at (eI k) (l := l) (i := j) (o := 0) h (by show 0 < 1; omega)
  simpa using this
end Go.Ab
