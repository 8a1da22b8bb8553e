/- What the functions of the program answer, for all arguments that the theorems name as conditions. -/
import Derived.Test.YtkfbpdbopkdnjaaS3RA
import Derived.Test.YtkfbpdbopkdnjaaS3R3
namespace Go.Ab
set_option linter.unusedSimpArgs false
set_option linter.unusedVariables false
set_option maxHeartbeats 8000000

/-! ## What the sizes say; equality -/
theorem szL_le (l : List Nat) : ∀ (x : Int), 0 ≤ szL l x → szL l x ≤ x ∧ ∀ n ∈ l, (n : Int) ≤ x := by
  induction l with
  | nil => intro x h; exact ⟨Int.le_refl _, by simp⟩
  | cons n r ih =>
    intro x h
    rw [szL] at h ⊢
    split at h
    · omega
    · rename_i hs
      rw [if_neg hs]
      obtain ⟨h1, h2⟩ := ih _ h
      have h3 : szN n x = x - n := by unfold szN at hs ⊢; split <;> simp_all
      refine ⟨by omega, fun k hk => ?_⟩
      rcases List.mem_cons.1 hk with rfl | hk
      · omega
      · have := h2 k hk
        omega
theorem l_eqByteS (r : List Int) : ∀ (p : List Int) (q : Nat), r.length < q → (p ++ r).length < 1000000000 → L_laws_eqByteS 0 q 0 [frS eU8 (p ++ r), frS eU8 (p ++ r), .int .i64 p.length] [] = some (.bool true, []) := by
  induction r with
  | nil =>
    intro p q hq hl
    obtain ⟨q, rfl⟩ : ∃ n, q = n + 1 := ⟨q - 1, by omega⟩
    simp +contextual -implicitDefEqProofs [L_laws_eqByteS, retK_eq]
  | cons x r ih =>
    intro p q hq hl
    obtain ⟨q, rfl⟩ : ∃ n, q = n + 1 := ⟨q - 1, by omega⟩
    have h := ih (p ++ [x]) q (by simp at hq; omega) (by simpa using hl)
    simp at h
    have hx := ixa_mid eU8 (sz := 1) rfl .i64 p x r
    have hw := wrap_next (n := p.length) (by simp at hl; omega)
    simp +contextual -implicitDefEqProofs [L_laws_eqByteS, retK_eq, cutK_eq, hx, hw, h]
theorem s_eqByteS (a : List Int) (ha : a.length < 1000000000) : X_laws_eqByteS [frS eU8 a, frS eU8 a] [] = some (.bool true, []) := by
  have h2 := l_eqByteS a [] QQ (by unfold QQ; omega) (by simpa using ha)
  simp at h2
  simp +contextual -implicitDefEqProofs [X_laws_eqByteS, cutK_eq, retK_eq, h2]
theorem l_heldByteS (n : Nat) : ∀ (p : List Int) (t : Int) (q : Nat), n < q → p.length + n < 1000000000 → 0 ≤ t → t + n ≤ 1000000000000 → L_laws_heldByteS 0 q 0 [frS eU8 (p ++ markB t n), .int .i64 t, .int .i64 p.length] [] = some (.int .i64 (t + n), []) := by
  induction n with
  | zero =>
    intro p t q hq hn h0 h1
    obtain ⟨q, rfl⟩ : ∃ n, q = n + 1 := ⟨q - 1, by omega⟩
    simp -implicitDefEqProofs [L_laws_heldByteS, retK_eq, markB]
  | succ n ih =>
    intro p t q hq hn h0 h1
    obtain ⟨q, rfl⟩ : ∃ n, q = n + 1 := ⟨q - 1, by omega⟩
    have h := ih (p ++ [IntKind.u8.wrap t]) (t + 1) q (by omega) (by simp; omega) (by omega) (by push_cast at h1; omega)
    simp at h
    have hx := ixa_mid eU8 (sz := 1) rfl .i64 p (IntKind.u8.wrap t) (markB (t + 1) n)
    have hw := wrap_next (n := p.length) (by omega)
    have hw2 := wrap_one h0 (by omega)
    have e : t + ((n : Int) + 1) = t + 1 + n := by omega
    simp +contextual -implicitDefEqProofs [L_laws_heldByteS, retK_eq, cutK_eq, hx, hw, hw2.1, h, markB, e]
theorem s_heldByteS (n : Nat) (t : Int) (hn : n < 1000000000) (h0 : 0 ≤ t) (h1 : t ≤ 100000000000) : X_laws_heldByteS [frS eU8 (markB t n), .int .i64 t] [] = some (.int .i64 (t + n), []) := by
  have h := l_heldByteS n [] t QQ (by unfold QQ; omega) (by simpa using hn) h0 (by omega)
  simp at h
  simp +contextual -implicitDefEqProofs [X_laws_heldByteS, retK_eq, cutK_eq, h]
end Go.Ab
