/- What the functions of the program answer, for all arguments that the theorems name as conditions. -/
import Derived.Test.YtkfbpdbopkdnjaaS3RA
namespace Go.Ab
set_option linter.unusedSimpArgs false
set_option linter.unusedVariables false
set_option maxHeartbeats 8000000

/-! ## What the sizes say; equality -/
theorem szL_le (l : List Nat) : ∀ (x : Int), 0 ≤ szL l x → szL l x ≤ x ∧ ∀ n ∈ l, (n : Int) ≤ x := by
  induction l with
  | nil => intro x h; exact ⟨Int.le_refl _, by simp⟩
  | cons n r ih =>
    intro x h
    rw [szL] at h ⊢
    split at h
    · omega
    · rename_i hs
      rw [if_neg hs]
      obtain ⟨h1, h2⟩ := ih _ h
      have h3 : szN n x = x - n := by unfold szN at hs ⊢; split <;> simp_all
      refine ⟨by omega, fun k hk => ?_⟩
      rcases List.mem_cons.1 hk with rfl | hk
      · omega
      · have := h2 k hk
        omega
theorem szL_up (l : List (List Int)) : ∀ (x t : Int), 0 ≤ szL (l.map List.length) x → upSS t l ≤ t + x - szL (l.map List.length) x := by
  induction l with
  | nil => intro x t h; simp [szL, upSS]
  | cons n r ih =>
    intro x t h
    rw [List.map_cons, szL] at h ⊢
    split at h
    · omega
    · rename_i hs
      rw [if_neg hs, upSS]
      have := ih _ (t + n.length) h
      have h3 : szN n.length x = x - n.length := by unfold szN at hs ⊢; split <;> simp_all
      omega
theorem szL_upE (l : List EvT) : ∀ (x t : Int), 0 ≤ szL (l.map fun e => e.d.length) x → upES t l ≤ t + x - szL (l.map fun e => e.d.length) x + 12 * l.length := by
  induction l with
  | nil => intro x t h; simp [szL, upES]
  | cons n r ih =>
    intro x t h
    rw [List.map_cons, szL] at h ⊢
    split at h
    · omega
    · rename_i hs
      rw [if_neg hs, upES]
      have := ih _ (upE t n) h
      have h3 : szN n.d.length x = x - n.d.length := by unfold szN at hs ⊢; split <;> simp_all
      unfold upE at *
      rw [List.length_cons]
      push_cast
      omega
theorem l_eqByteS (r : List Int) : ∀ (p : List Int) (q : Nat), r.length < q → (p ++ r).length < 1000000000 → L_laws_eqByteS 0 q 0 [frS eU8 (p ++ r), frS eU8 (p ++ r), .int .i64 p.length] [] = some (.bool true, []) := by
  induction r with
  | nil =>
    intro p q hq hl
    obtain ⟨q, rfl⟩ : ∃ n, q = n + 1 := ⟨q - 1, by omega⟩
    simp +contextual -implicitDefEqProofs [L_laws_eqByteS, retK_eq]
  | cons x r ih =>
    intro p q hq hl
    obtain ⟨q, rfl⟩ : ∃ n, q = n + 1 := ⟨q - 1, by omega⟩
    have h := ih (p ++ [x]) q (by simp at hq; omega) (by simpa using hl)
    simp at h
    have hx := ixa_mid eU8 (sz := 1) rfl .i64 p x r
    have hw := wrap_next (n := p.length) (by simp at hl; omega)
    simp +contextual -implicitDefEqProofs [L_laws_eqByteS, retK_eq, cutK_eq, hx, hw, h]
theorem s_eqByteS (a : List Int) (ha : a.length < 1000000000) : X_laws_eqByteS [frS eU8 a, frS eU8 a] [] = some (.bool true, []) := by
  have h2 := l_eqByteS a [] QQ (by unfold QQ; omega) (by simpa using ha)
  simp at h2
  simp +contextual -implicitDefEqProofs [X_laws_eqByteS, cutK_eq, retK_eq, h2]
theorem s_eqWay (a b c d e f g : Int) : X_laws_eqWay [.agg #[.int .i64 a, .int .i64 b, .int .i64 c, .int .i64 d, .int .i64 e, .int .i64 f, .int .i64 g], .agg #[.int .i64 a, .int .i64 b, .int .i64 c, .int .i64 d, .int .i64 e, .int .i64 f, .int .i64 g]] [] = some (.bool true, []) := by
  simp (maxSteps := 400000) -implicitDefEqProofs [X_laws_eqWay, retK_eq]
theorem s_eqEvent (e : EvT) (h : e.d.length < 1000000000) : X_laws_eqEvent [evV e, evV e] [] = some (.bool true, []) := by
  have h1 := s_eqByteS e.d h
  have h2 := s_eqWay
  simp (maxSteps := 1000000) -implicitDefEqProofs [X_laws_eqEvent, retK_eq, h1, h2]
theorem l_eqEventS (r : List EvT) : ∀ (p : List EvT) (q : Nat), r.length < q → (p ++ r).length < 1000000000 → (∀ x ∈ r, x.d.length < 1000000000) → L_laws_eqEventS 0 q 0 [frS eEv (p ++ r), frS eEv (p ++ r), .int .i64 p.length] [] = some (.bool true, []) := by
  induction r with
  | nil =>
    intro p q hq hl hb
    obtain ⟨q, rfl⟩ : ∃ n, q = n + 1 := ⟨q - 1, by omega⟩
    simp +contextual -implicitDefEqProofs [L_laws_eqEventS, retK_eq]
  | cons x r ih =>
    intro p q hq hl hb
    obtain ⟨q, rfl⟩ : ∃ n, q = n + 1 := ⟨q - 1, by omega⟩
    have h := ih (p ++ [x]) q (by simp at hq; omega) (by simpa using hl) (fun y hy => hb y (by simp [hy]))
    simp at h
    have hx := ixa_mid eEv (sz := 13) rfl .i64 p x r
    have hw := wrap_next (n := p.length) (by simp at hl; omega)
    have hc := s_eqEvent x (hb x (by simp))
    simp +contextual -implicitDefEqProofs [L_laws_eqEventS, retK_eq, cutK_eq, hx, hw, hc, h]
theorem s_eqEventS (a : List EvT) (ha : a.length < 1000000000) (hb : ∀ x ∈ a, x.d.length < 1000000000) : X_laws_eqEventS [frS eEv a, frS eEv a] [] = some (.bool true, []) := by
  have h2 := l_eqEventS a [] QQ (by unfold QQ; omega) (by simpa using ha) hb
  simp at h2
  simp +contextual -implicitDefEqProofs [X_laws_eqEventS, cutK_eq, retK_eq, h2]
theorem l_eqByteSS (r : List (List Int)) : ∀ (p : List (List Int)) (q : Nat), r.length < q → (p ++ r).length < 1000000000 → (∀ x ∈ r, x.length < 1000000000) → L_laws_eqByteSS 0 q 0 [frS eBS (p ++ r), frS eBS (p ++ r), .int .i64 p.length] [] = some (.bool true, []) := by
  induction r with
  | nil =>
    intro p q hq hl hb
    obtain ⟨q, rfl⟩ : ∃ n, q = n + 1 := ⟨q - 1, by omega⟩
    simp +contextual -implicitDefEqProofs [L_laws_eqByteSS, retK_eq]
  | cons x r ih =>
    intro p q hq hl hb
    obtain ⟨q, rfl⟩ : ∃ n, q = n + 1 := ⟨q - 1, by omega⟩
    have h := ih (p ++ [x]) q (by simp at hq; omega) (by simpa using hl) (fun y hy => hb y (by simp [hy]))
    simp at h
    have hx := ixa_mid eBS (sz := 1) rfl .i64 p x r
    have hw := wrap_next (n := p.length) (by simp at hl; omega)
    have hc := s_eqByteS x (hb x (by simp))
    simp +contextual -implicitDefEqProofs [L_laws_eqByteSS, retK_eq, cutK_eq, hx, hw, hc, h]
theorem s_eqByteSS (a : List (List Int)) (ha : a.length < 1000000000) (hb : ∀ x ∈ a, x.length < 1000000000) : X_laws_eqByteSS [frS eBS a, frS eBS a] [] = some (.bool true, []) := by
  have h2 := l_eqByteSS a [] QQ (by unfold QQ; omega) (by simpa using ha) hb
  simp at h2
  simp +contextual -implicitDefEqProofs [X_laws_eqByteSS, cutK_eq, retK_eq, h2]
abbrev brV (c : Int) (l : List Int) : Value := .agg #[.int .i64 c, frS eU8 l]
theorem s_eqBytesResult (c : Int) (l : List Int) (hl : l.length < 1000000000) : X_laws_eqBytesResult [brV c l, brV c l] [] = some (.bool true, []) := by
  have h := s_eqByteS l hl
  simp -implicitDefEqProofs [X_laws_eqBytesResult, retK_eq, h]
theorem l_heldByteS (n : Nat) : ∀ (p : List Int) (t : Int) (q : Nat), n < q → p.length + n < 1000000000 → 0 ≤ t → t + n ≤ 1000000000000 → L_laws_heldByteS 0 q 0 [frS eU8 (p ++ markB t n), .int .i64 t, .int .i64 p.length] [] = some (.int .i64 (t + n), []) := by
  induction n with
  | zero =>
    intro p t q hq hn h0 h1
    obtain ⟨q, rfl⟩ : ∃ n, q = n + 1 := ⟨q - 1, by omega⟩
    simp -implicitDefEqProofs [L_laws_heldByteS, retK_eq, markB]
  | succ n ih =>
    intro p t q hq hn h0 h1
    obtain ⟨q, rfl⟩ : ∃ n, q = n + 1 := ⟨q - 1, by omega⟩
    have h := ih (p ++ [IntKind.u8.wrap t]) (t + 1) q (by omega) (by simp; omega) (by omega) (by push_cast at h1; omega)
    simp at h
    have hx := ixa_mid eU8 (sz := 1) rfl .i64 p (IntKind.u8.wrap t) (markB (t + 1) n)
    have hw := wrap_next (n := p.length) (by omega)
    have hw2 := wrap_one h0 (by omega)
    have e : t + ((n : Int) + 1) = t + 1 + n := by omega
    simp +contextual -implicitDefEqProofs [L_laws_heldByteS, retK_eq, cutK_eq, hx, hw, hw2.1, h, markB, e]
theorem s_heldByteS (n : Nat) (t : Int) (hn : n < 1000000000) (h0 : 0 ≤ t) (h1 : t ≤ 100000000000) : X_laws_heldByteS [frS eU8 (markB t n), .int .i64 t] [] = some (.int .i64 (t + n), []) := by
  have h := l_heldByteS n [] t QQ (by unfold QQ; omega) (by simpa using hn) h0 (by omega)
  simp at h
  simp +contextual -implicitDefEqProofs [X_laws_heldByteS, retK_eq, cutK_eq, h]
theorem s_heldBytesResult (c : Int) (n : Nat) (hn : n < 1000000000) : X_laws_heldBytesResult [.agg #[.int .i64 c, frS eU8 (markB 1 n)], .int .i64 1] [] = some (.int .i64 (1 + n), []) := by
  have h := s_heldByteS n 1 hn (by omega) (by omega)
  have g : ¬ (1 + (n : Int)) < 0 := by omega
  simp -implicitDefEqProofs [X_laws_heldBytesResult, retK_eq, h, g]
end Go.Ab
