/- What the functions of the program answer, for all arguments that the theorems name as conditions. -/
import Derived.Test.YtelkckbbelillaaS5U6
import Derived.Test.YtelkckbbelillaaS5G5
import Derived.Test.YtelkckbbelillaaS5G7
namespace Go.Ab
set_option linter.unusedSimpArgs false
set_option linter.unusedVariables false
set_option maxHeartbeats 4000000

/-! ## Marks in screens -/
theorem layP1 (pre p zs : List CellT) (z : CellT) (a : Int) : lay (cellsE eC (pre ++ (p ++ z :: zs))) (pre.length * 2 + p.length * 2) [.int .i64 a] = cellsE eC (pre ++ (p ++ ⟨a, z.a⟩ :: zs)) := by
  have h := lay_eC1 (pre ++ p) zs z a
  rw [List.length_append, Nat.add_mul, List.append_assoc, List.append_assoc] at h
  exact h
theorem layP2 (pre p zs : List CellT) (z : CellT) (a : Int) : lay (cellsE eC (pre ++ (p ++ z :: zs))) (pre.length * 2 + p.length * 2 + 1) [.int .i64 a] = cellsE eC (pre ++ (p ++ ⟨z.c, a⟩ :: zs)) := by
  have h := lay_eC2 (pre ++ p) zs z a
  rw [List.length_append, Nat.add_mul, List.append_assoc, List.append_assoc] at h
  exact h
theorem l_markCellP (pre post : List CellT) (c : Nat) (r : List CellT) : ∀ (p : List CellT) (t : Int) (q n : Nat), r.length < q → n = (p ++ r).length → n < 1000000000 → 0 ≤ t → t + 2 * r.length ≤ 1000000000000 → L_laws_markCellS 1 q 0 [.slice (some ⟨0, pre.length * 2, none⟩) n c, .int .i64 t, .int .i64 p.length] [ownB eC (pre ++ (p ++ (r ++ post)))] = some (.int .i64 (upC t r.length), [ownB eC (pre ++ (p ++ (markC t r.length ++ post)))]) := by
  induction r with
  | nil =>
    intro p t q n hq hn hl h0 h1
    obtain ⟨q, rfl⟩ : ∃ n, q = n + 1 := ⟨q - 1, by omega⟩
    subst hn
    simp -implicitDefEqProofs [L_laws_markCellS, retK_eq, markC, upC]
  | cons x r ih =>
    intro p t q n hq hn hl h0 h1
    obtain ⟨q, rfl⟩ : ∃ n, q = n + 1 := ⟨q - 1, by omega⟩
    simp only [List.length_cons] at h1
    have h := ih (p ++ [⟨t, t + 1⟩]) (t + 1 + 1) q n (by simp at hq; omega) (by simpa using hn) hl (by omega) (by push_cast at h1; omega)
    simp at h
    have hw := wrap_next (n := p.length) (by simp at hn; omega)
    have hw2 := wrap_one h0 (by omega)
    have hn' : n = p.length + (r.length + 1) := by simpa using hn
    have y1 := layP1 pre p (r ++ post) x t
    have y2 := layP2 pre p (r ++ post) ⟨t, x.a⟩ (t + 1)
    subst hn'
    simp +contextual -implicitDefEqProofs [L_laws_markCellS, retK_eq, cutK_eq, hw, hw2.1, hw2.2, h, markC, upC, y1, y2]
    omega
theorem s_markCellP (pre post l : List CellT) (c : Nat) (t : Int) (hl : l.length < 1000000000) (h0 : 0 ≤ t) (h1 : t ≤ 100000000000) : X_laws_markCellS [.slice (some ⟨0, pre.length * 2, none⟩) l.length c, .int .i64 t] [ownB eC (pre ++ (l ++ post))] = some (.int .i64 (upC t l.length), [ownB eC (pre ++ (markC t l.length ++ post))]) := by
  have h := l_markCellP pre post c l [] t QQ l.length (by unfold QQ; omega) rfl hl h0 (by omega)
  simp at h
  simp +contextual -implicitDefEqProofs [X_laws_markCellS, retK_eq, cutK_eq, h]
def markI (t : Int) : Nat → List Int
  | 0 => []
  | n + 1 => t :: markI (t + 1) n
@[simp] theorem markI_len (t : Int) (n : Nat) : (markI t n).length = n := by
  induction n generalizing t with
  | zero => rfl
  | succ n ih => simp [markI, ih]
theorem l_markInt64S (r : List Int) : ∀ (p : List Int) (t : Int) (q n : Nat), r.length < q → n = (p ++ r).length → n < 1000000000 → 0 ≤ t → t + r.length ≤ 1000000000000 → L_laws_markInt64S 1 q 0 [slO 0 n, .int .i64 t, .int .i64 p.length] [ownB eI6 (p ++ r)] = some (.int .i64 (t + r.length), [ownB eI6 (p ++ markI t r.length)]) := by
  induction r with
  | nil =>
    intro p t q n hq hn hl h0 h1
    obtain ⟨q, rfl⟩ : ∃ n, q = n + 1 := ⟨q - 1, by omega⟩
    subst hn
    simp -implicitDefEqProofs [L_laws_markInt64S, retK_eq, markI]
  | cons x r ih =>
    intro p t q n hq hn hl h0 h1
    obtain ⟨q, rfl⟩ : ∃ n, q = n + 1 := ⟨q - 1, by omega⟩
    simp only [List.length_cons] at h1
    have h := ih (p ++ [t]) (t + 1) q n (by simp at hq; omega) (by simpa using hn) hl (by omega) (by push_cast at h1; omega)
    simp at h
    have hw := wrap_next (n := p.length) (by simp at hn; omega)
    have hw2 := wrap_one h0 (by omega)
    have hn' : n = p.length + (r.length + 1) := by simpa using hn
    subst hn'
    have hy := lay_mid eI6 p x r t
    simp at hy
    have e : t + ((r.length : Int) + 1) = t + 1 + r.length := by omega
    simp +contextual -implicitDefEqProofs [L_laws_markInt64S, retK_eq, cutK_eq, hw, hw2.1, hy, h, markI, e]
theorem s_markInt64S (l : List Int) (t : Int) (hl : l.length < 1000000000) (h0 : 0 ≤ t) (h1 : t ≤ 100000000000) : X_laws_markInt64S [slO 0 l.length, .int .i64 t] [ownB eI6 l] = some (.int .i64 (t + l.length), [ownB eI6 (markI t l.length)]) := by
  have h := l_markInt64S l [] t QQ l.length (by unfold QQ; omega) rfl hl h0 (by omega)
  simp at h
  simp +contextual -implicitDefEqProofs [X_laws_markInt64S, retK_eq, cutK_eq, h]
theorem s_markInt64S_nil (t : Int) : X_laws_markInt64S [.slice none 0 0, .int .i64 t] [] = some (.int .i64 t, []) := by
  have h : L_laws_markInt64S 0 QQ 0 [.slice none 0 0, .int .i64 t, .int .i64 0] [] = some (.int .i64 t, []) := by
    obtain ⟨q, hq⟩ : ∃ n, QQ = n + 1 := ⟨QQ - 1, by unfold QQ; omega⟩
    rw [hq]
    simp +contextual -implicitDefEqProofs [L_laws_markInt64S, retK_eq, cutK_eq]
  simp +contextual -implicitDefEqProofs [X_laws_markInt64S, retK_eq, cutK_eq, h]
theorem l_heldInt64S (n : Nat) : ∀ (p : List Int) (t : Int) (q : Nat), n < q → p.length + n < 1000000000 → 0 ≤ t → t + n ≤ 1000000000000 → L_laws_heldInt64S 0 q 0 [frS eI6 (p ++ markI t n), .int .i64 t, .int .i64 p.length] [] = some (.int .i64 (t + n), []) := by
  induction n with
  | zero =>
    intro p t q hq hn h0 h1
    obtain ⟨q, rfl⟩ : ∃ n, q = n + 1 := ⟨q - 1, by omega⟩
    simp -implicitDefEqProofs [L_laws_heldInt64S, retK_eq, markI]
  | succ n ih =>
    intro p t q hq hn h0 h1
    obtain ⟨q, rfl⟩ : ∃ n, q = n + 1 := ⟨q - 1, by omega⟩
    have h := ih (p ++ [t]) (t + 1) q (by omega) (by simp; omega) (by omega) (by push_cast at h1; omega)
    simp at h
    have hx := ixa_mid eI6 (sz := 1) rfl .i64 p t (markI (t + 1) n)
    have hw := wrap_next (n := p.length) (by omega)
    have hw2 := wrap_one h0 (by omega)
    have e : t + ((n : Int) + 1) = t + 1 + n := by omega
    simp +contextual -implicitDefEqProofs [L_laws_heldInt64S, retK_eq, cutK_eq, hx, hw, hw2.1, h, markI, e]
theorem s_heldInt64S (n : Nat) (t : Int) (hn : n < 1000000000) (h0 : 0 ≤ t) (h1 : t ≤ 100000000000) : X_laws_heldInt64S [frS eI6 (markI t n), .int .i64 t] [] = some (.int .i64 (t + n), []) := by
  have h := l_heldInt64S n [] t QQ (by unfold QQ; omega) (by simpa using hn) h0 (by omega)
  simp at h
  simp +contextual -implicitDefEqProofs [X_laws_heldInt64S, retK_eq, cutK_eq, h]
def thB (t : Int) : Bool := t.tmod 3 == 0
def markBo (t : Int) : Nat → List Bool
  | 0 => []
  | n + 1 => thB t :: markBo (t + 1) n
@[simp] theorem markBo_len (t : Int) (n : Nat) : (markBo t n).length = n := by
  induction n generalizing t with
  | zero => rfl
  | succ n ih => simp [markBo, ih]
theorem l_markBoolS (post : List Bool) (c : Nat) (r : List Bool) : ∀ (p : List Bool) (t : Int) (q n : Nat), r.length < q → n = (p ++ r).length → n < 1000000000 → 0 ≤ t → t + r.length ≤ 1000000000000 → L_laws_markBoolS 1 q 0 [slQ 0 0 n c, .int .i64 t, .int .i64 p.length] [ownB eB (p ++ (r ++ post))] = some (.int .i64 (t + r.length), [ownB eB (p ++ (markBo t r.length ++ post))]) := by
  induction r with
  | nil =>
    intro p t q n hq hn hl h0 h1
    obtain ⟨q, rfl⟩ : ∃ n, q = n + 1 := ⟨q - 1, by omega⟩
    subst hn
    simp -implicitDefEqProofs [L_laws_markBoolS, retK_eq, markBo]
  | cons x r ih =>
    intro p t q n hq hn hl h0 h1
    obtain ⟨q, rfl⟩ : ∃ n, q = n + 1 := ⟨q - 1, by omega⟩
    simp only [List.length_cons] at h1
    have h := ih (p ++ [thB t]) (t + 1) q n (by simp at hq; omega) (by simpa using hn) hl (by omega) (by push_cast at h1; omega)
    simp at h
    have hw := wrap_next (n := p.length) (by simp at hn; omega)
    have hw2 := wrap_one h0 (by omega)
    have hn' : n = p.length + (r.length + 1) := by simpa using hn
    subst hn'
    have hy := lay_mid eB p x (r ++ post) (thB t)
    simp at hy
    have e : t + ((r.length : Int) + 1) = t + 1 + r.length := by omega
    unfold thB at h hy
    simp +contextual -implicitDefEqProofs [L_laws_markBoolS, retK_eq, cutK_eq, hw, hw2.1, hy, h, markBo, e, thB]
theorem s_markBoolS (l post : List Bool) (c : Nat) (t : Int) (hl : l.length < 1000000000) (h0 : 0 ≤ t) (h1 : t ≤ 100000000000) : X_laws_markBoolS [slQ 0 0 l.length c, .int .i64 t] [ownB eB (l ++ post)] = some (.int .i64 (t + l.length), [ownB eB (markBo t l.length ++ post)]) := by
  have h := l_markBoolS post c l [] t QQ l.length (by unfold QQ; omega) rfl hl h0 (by omega)
  simp at h
  simp +contextual -implicitDefEqProofs [X_laws_markBoolS, retK_eq, cutK_eq, h]
theorem s_markBoolS_nil (t : Int) : X_laws_markBoolS [.slice none 0 0, .int .i64 t] [] = some (.int .i64 t, []) := by
  have h : L_laws_markBoolS 0 QQ 0 [.slice none 0 0, .int .i64 t, .int .i64 0] [] = some (.int .i64 t, []) := by
    obtain ⟨q, hq⟩ : ∃ n, QQ = n + 1 := ⟨QQ - 1, by unfold QQ; omega⟩
    rw [hq]
    simp +contextual -implicitDefEqProofs [L_laws_markBoolS, retK_eq, cutK_eq]
  simp +contextual -implicitDefEqProofs [X_laws_markBoolS, retK_eq, cutK_eq, h]
theorem l_heldBoolS (n : Nat) : ∀ (p : List Bool) (t : Int) (q : Nat), n < q → p.length + n < 1000000000 → 0 ≤ t → t + n ≤ 1000000000000 → L_laws_heldBoolS 0 q 0 [frS eB (p ++ markBo t n), .int .i64 t, .int .i64 p.length] [] = some (.int .i64 (t + n), []) := by
  induction n with
  | zero =>
    intro p t q hq hn h0 h1
    obtain ⟨q, rfl⟩ : ∃ n, q = n + 1 := ⟨q - 1, by omega⟩
    simp -implicitDefEqProofs [L_laws_heldBoolS, retK_eq, markBo]
  | succ n ih =>
    intro p t q hq hn h0 h1
    obtain ⟨q, rfl⟩ : ∃ n, q = n + 1 := ⟨q - 1, by omega⟩
    have h := ih (p ++ [thB t]) (t + 1) q (by omega) (by simp; omega) (by omega) (by push_cast at h1; omega)
    simp at h
    have hx := ixa_mid eB (sz := 1) rfl .i64 p (thB t) (markBo (t + 1) n)
    have hw := wrap_next (n := p.length) (by omega)
    have hw2 := wrap_one h0 (by omega)
    have e : t + ((n : Int) + 1) = t + 1 + n := by omega
    have e3 : (t.tmod 3 == 0) = thB t := rfl
    simp +contextual -implicitDefEqProofs [L_laws_heldBoolS, retK_eq, cutK_eq, hx, hw, hw2.1, h, markBo, e, e3]
theorem s_heldBoolS (n : Nat) (t : Int) (hn : n < 1000000000) (h0 : 0 ≤ t) (h1 : t ≤ 100000000000) : X_laws_heldBoolS [frS eB (markBo t n), .int .i64 t] [] = some (.int .i64 (t + n), []) := by
  have h := l_heldBoolS n [] t QQ (by unfold QQ; omega) (by simpa using hn) h0 (by omega)
  simp at h
  simp +contextual -implicitDefEqProofs [X_laws_heldBoolS, retK_eq, cutK_eq, h]
end Go.Ab
