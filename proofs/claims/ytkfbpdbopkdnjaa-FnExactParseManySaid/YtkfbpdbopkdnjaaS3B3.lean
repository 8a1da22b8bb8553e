/- What the functions of the program answer, for all arguments that the theorems name as conditions. -/
import Derived.Test.YtkfbpdbopkdnjaaS3B0
import Derived.Test.YtkfbpdbopkdnjaaS3B3z
namespace Go.Ab
set_option linter.unusedSimpArgs false
set_option linter.unusedVariables false
set_option maxHeartbeats 8000000

/-! ## The laws' helpers over numbers -/
theorem l_toInt64S (r : List Int) : ∀ (p : List Int) (q n : Nat), r.length < q → n = (p ++ r).length → n < 1000000000 → L_laws_toInt64S 0 q 0 [frS eI6 (p ++ r), .slice (some ⟨0, 0, none⟩) n n, .int .i64 p.length] [ownB eI6 (p ++ List.replicate r.length 0)] = some (.slice (some ⟨0, 0, none⟩) n n, [ownB eI6 (p ++ r)]) := by
  induction r with
  | nil =>
    intro p q n hq hn hl
    obtain ⟨q, rfl⟩ : ∃ n, q = n + 1 := ⟨q - 1, by omega⟩
    simp -implicitDefEqProofs [L_laws_toInt64S, retK_eq]
  | cons x r ih =>
    intro p q n hq hn hl
    obtain ⟨q, rfl⟩ : ∃ n, q = n + 1 := ⟨q - 1, by omega⟩
    have h := ih (p ++ [x]) q n (by simp at hq; omega) (by simpa using hn) hl
    simp at h
    have hx := ixa_mid eI6 (sz := 1) rfl .i64 p x r
    have hw := wrap_next (n := p.length) (by simp at hn; omega)
    have hn' : n = p.length + (r.length + 1) := by simpa using hn
    subst hn'
    have hy := lay_mid eI6 p 0 (List.replicate r.length 0) x
    simp at hy
    simp +contextual -implicitDefEqProofs [L_laws_toInt64S, retK_eq, cutK_eq, hx, hw, h, List.replicate_succ, hy]
theorem s_toInt64S (l : List Int) (hl : l.length < 1000000000) : X_laws_toInt64S [frS eI6 l] [] = some (slO 0 l.length, [ownB eI6 l]) := by
  have h := l_toInt64S l [] QQ l.length (by unfold QQ; omega) rfl hl
  simp at h
  simp +contextual -implicitDefEqProofs [X_laws_toInt64S, cutK_eq, retK_eq, h, hl]
theorem s_szInt64S (l : List Int) (left : Int) (hl : l.length ≤ 9223372036854775807) (h0 : 0 ≤ left) (h1 : left ≤ 1048576) : X_laws_szInt64S [frS eI6 l, .int .i64 left] [] = some (.int .i64 (szN l.length left), []) := by
  have hw : IntKind.i64.wrap (left - l.length) = left - l.length := wrap_i64 (by omega) (by omega)
  simp +contextual -implicitDefEqProofs [X_laws_szInt64S, retK_eq, hw]
  unfold szN
  split <;> rfl
theorem l_eqInt64S (r : List Int) : ∀ (p : List Int) (q : Nat), r.length < q → (p ++ r).length < 1000000000 → L_laws_eqInt64S 0 q 0 [frS eI6 (p ++ r), frS eI6 (p ++ r), .int .i64 p.length] [] = some (.bool true, []) := by
  induction r with
  | nil =>
    intro p q hq hl
    obtain ⟨q, rfl⟩ : ∃ n, q = n + 1 := ⟨q - 1, by omega⟩
    simp +contextual -implicitDefEqProofs [L_laws_eqInt64S, retK_eq]
  | cons x r ih =>
    intro p q hq hl
    obtain ⟨q, rfl⟩ : ∃ n, q = n + 1 := ⟨q - 1, by omega⟩
    have h := ih (p ++ [x]) q (by simp at hq; omega) (by simpa using hl)
    simp at h
    have hx := ixa_mid eI6 (sz := 1) rfl .i64 p x r
    have hw := wrap_next (n := p.length) (by simp at hl; omega)
    simp +contextual -implicitDefEqProofs [L_laws_eqInt64S, retK_eq, cutK_eq, hx, hw, h]
theorem s_eqInt64S (a : List Int) (ha : a.length < 1000000000) : X_laws_eqInt64S [frS eI6 a, frS eI6 a] [] = some (.bool true, []) := by
  have h2 := l_eqInt64S a [] QQ (by unfold QQ; omega) (by simpa using ha)
  simp at h2
  simp +contextual -implicitDefEqProofs [X_laws_eqInt64S, cutK_eq, retK_eq, h2]
def markI (t : Int) : Nat → List Int
  | 0 => []
  | n + 1 => t :: markI (t + 1) n
@[simp] theorem markI_len (t : Int) (n : Nat) : (markI t n).length = n := by
  induction n generalizing t with
  | zero => rfl
  | succ n ih => simp [markI, ih]
theorem l_markInt64S (r : List Int) : ∀ (p : List Int) (t : Int) (q n : Nat), r.length < q → n = (p ++ r).length → n < 1000000000 → 0 ≤ t → t + r.length ≤ 1000000000000 → L_laws_markInt64S 1 q 0 [slO 0 n, .int .i64 t, .int .i64 p.length] [ownB eI6 (p ++ r)] = some (.int .i64 (t + r.length), [ownB eI6 (p ++ markI t r.length)]) := by
  induction r with
  | nil =>
    intro p t q n hq hn hl h0 h1
    obtain ⟨q, rfl⟩ : ∃ n, q = n + 1 := ⟨q - 1, by omega⟩
    subst hn
    simp -implicitDefEqProofs [L_laws_markInt64S, retK_eq, markI]
  | cons x r ih =>
    intro p t q n hq hn hl h0 h1
    obtain ⟨q, rfl⟩ : ∃ n, q = n + 1 := ⟨q - 1, by omega⟩
    simp only [List.length_cons] at h1
    have h := ih (p ++ [t]) (t + 1) q n (by simp at hq; omega) (by simpa using hn) hl (by omega) (by push_cast at h1; omega)
    simp at h
    have hw := wrap_next (n := p.length) (by simp at hn; omega)
    have hw2 := wrap_one h0 (by omega)
    have hn' : n = p.length + (r.length + 1) := by simpa using hn
    subst hn'
    have hy := lay_mid eI6 p x r t
    simp at hy
    have e : t + ((r.length : Int) + 1) = t + 1 + r.length := by omega
    simp +contextual -implicitDefEqProofs [L_laws_markInt64S, retK_eq, cutK_eq, hw, hw2.1, hy, h, markI, e]
theorem s_markInt64S (l : List Int) (t : Int) (hl : l.length < 1000000000) (h0 : 0 ≤ t) (h1 : t ≤ 100000000000) : X_laws_markInt64S [slO 0 l.length, .int .i64 t] [ownB eI6 l] = some (.int .i64 (t + l.length), [ownB eI6 (markI t l.length)]) := by
  have h := l_markInt64S l [] t QQ l.length (by unfold QQ; omega) rfl hl h0 (by omega)
  simp at h
  simp +contextual -implicitDefEqProofs [X_laws_markInt64S, retK_eq, cutK_eq, h]
theorem s_markInt64S_nil (t : Int) : X_laws_markInt64S [.slice none 0 0, .int .i64 t] [] = some (.int .i64 t, []) := by
  have h : L_laws_markInt64S 0 QQ 0 [.slice none 0 0, .int .i64 t, .int .i64 0] [] = some (.int .i64 t, []) := by
    obtain ⟨q, hq⟩ : ∃ n, QQ = n + 1 := ⟨QQ - 1, by unfold QQ; omega⟩
    rw [hq]
    simp +contextual -implicitDefEqProofs [L_laws_markInt64S, retK_eq, cutK_eq]
  simp +contextual -implicitDefEqProofs [X_laws_markInt64S, retK_eq, cutK_eq, h]
theorem s_markInt64S_ro (t : Int) : X_laws_markInt64S [roS 0 [], .int .i64 t] [] = some (.int .i64 t, []) := by
  have h : L_laws_markInt64S 0 QQ 0 [roS 0 [], .int .i64 t, .int .i64 0] [] = some (.int .i64 t, []) := by
    obtain ⟨q, hq⟩ : ∃ n, QQ = n + 1 := ⟨QQ - 1, by unfold QQ; omega⟩
    rw [hq]
    simp +contextual -implicitDefEqProofs [L_laws_markInt64S, retK_eq, cutK_eq]
  simp +contextual -implicitDefEqProofs [X_laws_markInt64S, retK_eq, cutK_eq, h]
theorem l_heldInt64S (n : Nat) : ∀ (p : List Int) (t : Int) (q : Nat), n < q → p.length + n < 1000000000 → 0 ≤ t → t + n ≤ 1000000000000 → L_laws_heldInt64S 0 q 0 [frS eI6 (p ++ markI t n), .int .i64 t, .int .i64 p.length] [] = some (.int .i64 (t + n), []) := by
  induction n with
  | zero =>
    intro p t q hq hn h0 h1
    obtain ⟨q, rfl⟩ : ∃ n, q = n + 1 := ⟨q - 1, by omega⟩
    simp -implicitDefEqProofs [L_laws_heldInt64S, retK_eq, markI]
  | succ n ih =>
    intro p t q hq hn h0 h1
    obtain ⟨q, rfl⟩ : ∃ n, q = n + 1 := ⟨q - 1, by omega⟩
    have h := ih (p ++ [t]) (t + 1) q (by omega) (by simp; omega) (by omega) (by push_cast at h1; omega)
    simp at h
    have hx := ixa_mid eI6 (sz := 1) rfl .i64 p t (markI (t + 1) n)
    have hw := wrap_next (n := p.length) (by omega)
    have hw2 := wrap_one h0 (by omega)
    have e : t + ((n : Int) + 1) = t + 1 + n := by omega
    simp +contextual -implicitDefEqProofs [L_laws_heldInt64S, retK_eq, cutK_eq, hx, hw, hw2.1, h, markI, e]
theorem s_heldInt64S (n : Nat) (t : Int) (hn : n < 1000000000) (h0 : 0 ≤ t) (h1 : t ≤ 100000000000) : X_laws_heldInt64S [frS eI6 (markI t n), .int .i64 t] [] = some (.int .i64 (t + n), []) := by
  have h := l_heldInt64S n [] t QQ (by unfold QQ; omega) (by simpa using hn) h0 (by omega)
  simp at h
  simp +contextual -implicitDefEqProofs [X_laws_heldInt64S, retK_eq, cutK_eq, h]
end Go.Ab
