/- What the functions of the program answer, for all arguments that the theorems name as conditions. -/
import Derived.Test.YtkfbpdbopkdnjaaS3L0
namespace Go.Ab
set_option linter.unusedSimpArgs false
set_option linter.unusedVariables false
set_option maxHeartbeats 8000000

/-! ## Marks in keyboards -/
def markH (s : Int) : Nat → List HdT
  | 0 => []
  | n + 1 => ⟨s, s + 1⟩ :: markH (s + 1 + 1) n
@[simp] theorem markH_len (s : Int) (n : Nat) : (markH s n).length = n := by
  induction n generalizing s with
  | zero => rfl
  | succ n ih => simp [markH, ih]
def upH (s : Int) : Nat → Int
  | 0 => s
  | n + 1 => upH (s + 1 + 1) n
theorem upH_eq (s : Int) (n : Nat) : upH s n = s + 2 * n := by
  induction n generalizing s with
  | zero => simp [upH]
  | succ n ih => rw [upH, ih]; push_cast; omega
/-- Marks reach only the slice's own holds: `z` stays behind them in the block. -/
theorem l_markHoldS (z : List HdT) (r : List HdT) : ∀ (p : List HdT) (t : Int) (q n c : Nat), r.length < q → n = (p ++ r).length → c = n + z.length → c < 1000000000 → 0 ≤ t → t + 2 * r.length ≤ 1000000000000 → L_laws_markHoldS 1 q 0 [.slice (some ⟨0, 0, none⟩) n c, .int .i64 t, .int .i64 p.length] [ownB eHd (p ++ (r ++ z))] = some (.int .i64 (upH t r.length), [ownB eHd (p ++ (markH t r.length ++ z))]) := by
  induction r with
  | nil =>
    intro p t q n c hq hn hc hl h0 h1
    obtain ⟨q, rfl⟩ : ∃ n, q = n + 1 := ⟨q - 1, by omega⟩
    subst hn
    simp -implicitDefEqProofs [L_laws_markHoldS, retK_eq, markH, upH]
  | cons x r ih =>
    intro p t q n c hq hn hc hl h0 h1
    obtain ⟨q, rfl⟩ : ∃ n, q = n + 1 := ⟨q - 1, by omega⟩
    simp only [List.length_cons] at h1
    have h := ih (p ++ [⟨t, t + 1⟩]) (t + 1 + 1) q n c (by simp at hq; omega) (by simpa using hn) hc hl (by omega) (by push_cast at h1; omega)
    simp at h
    have hw := wrap_next (n := p.length) (by simp at hn; omega)
    have hw2 := wrap_one h0 (by omega)
    have hn' : n = p.length + (r.length + 1) := by simpa using hn
    subst hn' hc
    simp +contextual -implicitDefEqProofs [L_laws_markHoldS, retK_eq, cutK_eq, hw, hw2.1, hw2.2, h, markH, upH]
    omega
theorem s_markHoldS (l z : List HdT) (t : Int) (hl : l.length + z.length < 1000000000) (h0 : 0 ≤ t) (h1 : t ≤ 100000000000) : X_laws_markHoldS [.slice (some ⟨0, 0, none⟩) l.length (l.length + z.length), .int .i64 t] [ownB eHd (l ++ z)] = some (.int .i64 (upH t l.length), [ownB eHd (markH t l.length ++ z)]) := by
  have h := l_markHoldS z l [] t QQ l.length (l.length + z.length) (by unfold QQ; omega) rfl rfl hl h0 (by omega)
  simp at h
  simp +contextual -implicitDefEqProofs [X_laws_markHoldS, retK_eq, cutK_eq, h]
theorem s_markHoldS_nil (t : Int) : X_laws_markHoldS [.slice none 0 0, .int .i64 t] [] = some (.int .i64 t, []) := by
  have h : L_laws_markHoldS 0 QQ 0 [.slice none 0 0, .int .i64 t, .int .i64 0] [] = some (.int .i64 t, []) := by
    obtain ⟨q, hq⟩ : ∃ n, QQ = n + 1 := ⟨QQ - 1, by unfold QQ; omega⟩
    rw [hq]
    simp +contextual -implicitDefEqProofs [L_laws_markHoldS, retK_eq, cutK_eq]
  simp +contextual -implicitDefEqProofs [X_laws_markHoldS, retK_eq, cutK_eq, h]
theorem s_markHoldS_ro (t : Int) : X_laws_markHoldS [roS 0 [], .int .i64 t] [] = some (.int .i64 t, []) := by
  have h : L_laws_markHoldS 0 QQ 0 [roS 0 [], .int .i64 t, .int .i64 0] [] = some (.int .i64 t, []) := by
    obtain ⟨q, hq⟩ : ∃ n, QQ = n + 1 := ⟨QQ - 1, by unfold QQ; omega⟩
    rw [hq]
    simp +contextual -implicitDefEqProofs [L_laws_markHoldS, retK_eq, cutK_eq]
  simp +contextual -implicitDefEqProofs [X_laws_markHoldS, retK_eq, cutK_eq, h]
theorem l_heldHoldS (n : Nat) : ∀ (p : List HdT) (t : Int) (q : Nat), n < q → p.length + n < 1000000000 → 0 ≤ t → t + 2 * n ≤ 1000000000000 → L_laws_heldHoldS 0 q 0 [frS eHd (p ++ markH t n), .int .i64 t, .int .i64 p.length] [] = some (.int .i64 (upH t n), []) := by
  induction n with
  | zero =>
    intro p t q hq hn h0 h1
    obtain ⟨q, rfl⟩ : ∃ n, q = n + 1 := ⟨q - 1, by omega⟩
    simp -implicitDefEqProofs [L_laws_heldHoldS, retK_eq, markH, upH]
  | succ n ih =>
    intro p t q hq hn h0 h1
    obtain ⟨q, rfl⟩ : ∃ n, q = n + 1 := ⟨q - 1, by omega⟩
    have h := ih (p ++ [⟨t, t + 1⟩]) (t + 1 + 1) q (by omega) (by simp; omega) (by omega) (by push_cast at h1; omega)
    simp at h
    have hx := ixa_mid eHd (sz := 2) rfl .i64 p ⟨t, t + 1⟩ (markH (t + 1 + 1) n)
    have hw := wrap_next (n := p.length) (by omega)
    have hw2 := wrap_one h0 (by omega)
    simp +contextual -implicitDefEqProofs [L_laws_heldHoldS, retK_eq, cutK_eq, hx, hw, hw2.1, hw2.2, h, markH, upH]
theorem s_heldHoldS (n : Nat) (t : Int) (hn : n < 1000000000) (h0 : 0 ≤ t) (h1 : t ≤ 100000000000) : X_laws_heldHoldS [frS eHd (markH t n), .int .i64 t] [] = some (.int .i64 (upH t n), []) := by
  have h := l_heldHoldS n [] t QQ (by unfold QQ; omega) (by simpa using hn) h0 (by omega)
  simp at h
  simp +contextual -implicitDefEqProofs [X_laws_heldHoldS, retK_eq, cutK_eq, h]
theorem upH_pos (n : Nat) {t : Int} (h0 : 0 ≤ t) : ¬ upH t n < 0 := by rw [upH_eq]; omega
theorem s_heldKeyboard (p : KbT) (t : Int) (n : Nat) (hp : p.hs = markH t n) (hn : n < 1000000000) (h0 : 0 ≤ t) (h1 : t ≤ 100000000) : X_laws_heldKeyboard [kbV p, .int .i64 t] [] = some (.int .i64 (upH t n), []) := by
  have h := s_heldHoldS n t hn h0 (by omega)
  have g := upH_pos n h0
  simp +contextual -implicitDefEqProofs [X_laws_heldKeyboard, retK_eq, hp, h, g]
theorem s_markByteS_nil (t : Int) : X_laws_markByteS [.slice none 0 0, .int .i64 t] [] = some (.int .i64 t, []) := by
  have h : L_laws_markByteS 0 QQ 0 [.slice none 0 0, .int .i64 t, .int .i64 0] [] = some (.int .i64 t, []) := by
    obtain ⟨q, hq⟩ : ∃ n, QQ = n + 1 := ⟨QQ - 1, by unfold QQ; omega⟩
    rw [hq]
    simp +contextual -implicitDefEqProofs [L_laws_markByteS, retK_eq, cutK_eq]
  simp +contextual -implicitDefEqProofs [X_laws_markByteS, retK_eq, cutK_eq, h]
theorem s_heldByteS_nil (t : Int) : X_laws_heldByteS [.slice none 0 0, .int .i64 t] [] = some (.int .i64 t, []) := by
  have h : L_laws_heldByteS 0 QQ 0 [.slice none 0 0, .int .i64 t, .int .i64 0] [] = some (.int .i64 t, []) := by
    obtain ⟨q, hq⟩ : ∃ n, QQ = n + 1 := ⟨QQ - 1, by unfold QQ; omega⟩
    rw [hq]
    simp +contextual -implicitDefEqProofs [L_laws_heldByteS, retK_eq, cutK_eq]
  simp +contextual -implicitDefEqProofs [X_laws_heldByteS, retK_eq, cutK_eq, h]
theorem s_eqByteS_nil : X_laws_eqByteS [.slice none 0 0, .slice none 0 0] [] = some (.bool true, []) := by
  have h : L_laws_eqByteS 0 QQ 0 [.slice none 0 0, .slice none 0 0, .int .i64 0] [] = some (.bool true, []) := by
    obtain ⟨q, hq⟩ : ∃ n, QQ = n + 1 := ⟨QQ - 1, by unfold QQ; omega⟩
    rw [hq]
    simp +contextual -implicitDefEqProofs [L_laws_eqByteS, retK_eq, cutK_eq]
  simp +contextual -implicitDefEqProofs [X_laws_eqByteS, retK_eq, cutK_eq, h]
end Go.Ab
