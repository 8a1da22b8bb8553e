/- What the functions of the program answer, for all arguments that the theorems name as conditions. -/
import Derived.Test.YtkfbpdbopkdnjaaS3B2a
import Derived.Test.YtkfbpdbopkdnjaaS3B1f
namespace Go.Ab
set_option linter.unusedSimpArgs false
set_option linter.unusedVariables false
set_option maxHeartbeats 8000000

theorem l_spec_l4Params (r : List Int) : ∀ (p : List Int) (q : Nat), r.length < q → (p ++ r).length < 1000000000 → L_spec_l4Params 0 q 0 [frS eI6 (p ++ r), .int .i64 p.length] [] = some (.int .i64 (if allP r = true then 0 else 3), []) := by
  induction r with
  | nil =>
    intro p q hq hl
    obtain ⟨q, rfl⟩ : ∃ n, q = n + 1 := ⟨q - 1, by omega⟩
    simp +contextual -implicitDefEqProofs [L_spec_l4Params, retK_eq, allP]
  | cons x r ih =>
    intro p q hq hl
    obtain ⟨q, rfl⟩ : ∃ n, q = n + 1 := ⟨q - 1, by omega⟩
    have h := ih (p ++ [x]) q (by simp at hq; omega) (by simpa using hl)
    simp at h
    have hx := ixa_mid eI6 (sz := 1) rfl .i64 p x r
    have hw := wrap_next (n := p.length) (by simp at hl; omega)
    simp +contextual -implicitDefEqProofs [L_spec_l4Params, retK_eq, cutK_eq, hx, hw, s_spec_l1In, allP_cons, h]
    cases inB x 0 999 <;> simp
theorem s_spec_l4Params (l : List Int) (hl : l.length < 1000000000) : X_spec_l4Params [frS eI6 l] [] = some (.int .i64 (prmF l), []) := by
  have h := l_spec_l4Params l [] QQ (by unfold QQ; omega) (by simpa using hl)
  simp at h
  by_cases h1 : (l.length : Int) < 1
  · have : inB l.length 1 6 = false := by simp [inB]; omega
    simp -implicitDefEqProofs [X_spec_l4Params, retK_eq, cutK_eq, h, h1, prmF, this]
  · by_cases h2 : 6 < (l.length : Int)
    · have : inB l.length 1 6 = false := by simp [inB]; omega
      simp -implicitDefEqProofs [X_spec_l4Params, retK_eq, cutK_eq, h, h1, h2, prmF, this]
    · have : inB l.length 1 6 = true := by simp [inB]; omega
      simp -implicitDefEqProofs [X_spec_l4Params, retK_eq, cutK_eq, h, h1, h2, prmF, this]
theorem s_impl_paramsCode_1 (x : Int) : X_impl_paramsCode_1 [.int .i64 x] [] = some (.bool (!inB x 0 999), []) := by
  simp +contextual -implicitDefEqProofs [X_impl_paramsCode_1, retK_eq, s_impl_in]
theorem l_IndexFuncP (r : List Int) : ∀ (p : List Int) (q : Nat), r.length < q → (p ++ r).length < 1000000000 → ∃ n : Int, (allP r = true → n = -1) ∧ (allP r = false → 0 ≤ n) ∧ L_slices_IndexFunc_int64_int64 0 q 0 [frS eI6 (p ++ r), .func (.func 161) #[] #[], .int .i64 (p ++ r).length, .int .i64 p.length] [] = some (.int .i64 n, []) := by
  induction r with
  | nil =>
    intro p q hq hl
    obtain ⟨q, rfl⟩ : ∃ n, q = n + 1 := ⟨q - 1, by omega⟩
    refine ⟨-1, by simp, by simp [allP], ?_⟩
    simp +contextual -implicitDefEqProofs [L_slices_IndexFunc_int64_int64, retK_eq]
  | cons x r ih =>
    intro p q hq hl
    obtain ⟨q, rfl⟩ : ∃ n, q = n + 1 := ⟨q - 1, by omega⟩
    obtain ⟨n, h1, h2, h⟩ := ih (p ++ [x]) q (by simp at hq; omega) (by simpa using hl)
    simp at h
    have hx := ixa_mid eI6 (sz := 1) rfl .i64 p x r
    have hw := wrap_next (n := p.length) (by simp at hl; omega)
    refine ⟨if inB x 0 999 = true then n else p.length, ?_, ?_, ?_⟩
    · simp only [allP_cons, Bool.and_eq_true]
      rintro ⟨h3, h4⟩
      simp [h3, h1 h4]
    · cases hx : inB x 0 999
      · simp
      · simp [allP_cons, hx]
        exact h2
    · simp +contextual -implicitDefEqProofs [L_slices_IndexFunc_int64_int64, cf_slices_IndexFunc_int64_int64, retK_eq, cutK_eq, hx, hw, h, s_impl_paramsCode_1]
      cases inB x 0 999 <;> simp
theorem s_ContainsFuncP (l : List Int) (hl : l.length < 1000000000) : X_slices_ContainsFunc_int64_int64 [frS eI6 l, .func (.func 161) #[] #[]] [] = some (.bool (!allP l), []) := by
  obtain ⟨n, h1, h2, h⟩ := l_IndexFuncP l [] QQ (by unfold QQ; omega) (by simpa using hl)
  simp at h
  simp +contextual -implicitDefEqProofs [X_slices_ContainsFunc_int64_int64, X_slices_IndexFunc_int64_int64, cutK_eq, retK_eq, h]
  cases ha : allP l
  · simp [h2 ha]
  · simp [h1 ha]
theorem s_impl_paramsCode (l : List Int) (hl : l.length < 1000000000) : X_impl_paramsCode [frS eI6 l] [] = some (.int .i64 (prmF l), []) := by
  have h := s_ContainsFuncP l hl
  cases h1 : inB l.length 1 6 <;> cases h2 : allP l <;> simp -implicitDefEqProofs [X_impl_paramsCode, retK_eq, cutK_eq, s_impl_in, h, h1, h2, prmF, s_impl_unless, unl]
theorem s_spec_l4Fault (p : ParT) (hl : p.ns.length < 1000000000) (rest : List Value) : X_spec_l4Fault [parP p rest] [] = some (.int .i64 (parF p), []) := by
  obtain ⟨k, s, lead, ns⟩ := p
  have hk : k = 0 ∨ k = 1 ∨ k = 2 ∨ k = 3 ∨ (k ≠ 0 ∧ k ≠ 1 ∧ k ≠ 2 ∧ k ≠ 3) := by omega
  have hp := s_spec_l4Params ns hl
  have hp0 := s_spec_l4Params [] (by simp)
  have i0 : inB 0 0 3 = true := by decide
  have i1 : inB 1 0 3 = true := by decide
  have i2 : inB 2 0 3 = true := by decide
  have i3 : inB 3 0 3 = true := by decide
  have hn : ns = [] ∨ (ns ≠ [] ∧ 0 < ns.length) := by
    cases ns with
    | nil => exact .inl rfl
    | cons a b => exact .inr ⟨by simp, by simp⟩
  have i4 : (k ≠ 0 ∧ k ≠ 1 ∧ k ≠ 2 ∧ k ≠ 3) → inB k 0 3 = false := by intro h; simp [inB]; omega
  rcases hk with rfl | rfl | rfl | rfl | hk
  rotate_left 4
  · have i4 := i4 hk
    obtain ⟨k0, k1, k2, k3⟩ := hk
    simp -implicitDefEqProofs [X_spec_l4Fault, retK_eq, s_spec_l1In, parF, *]
  all_goals try (rcases hn with hn | ⟨hn, hn2⟩ <;> rcases Classical.propComplete (s = 0) with hs | hs <;> cases lead <;> cases i12 : inB s 1 2 <;> simp -implicitDefEqProofs [X_spec_l4Fault, retK_eq, s_spec_l1In, hp, parF, emP, *])
theorem s_impl_isSet (x : Int) : X_impl_isSet [.int .i64 x] [] = some (.bool (inB x 1 2), []) := by
  simp +contextual -implicitDefEqProofs [X_impl_isSet, retK_eq, s_impl_in]
theorem s_impl_ParserFault (p : ParT) (hl : p.ns.length < 1000000000) : X_impl_ParserFault [parV p] [] = some (.int .i64 (parF p), []) := by
  obtain ⟨k, s, lead, ns⟩ := p
  have hk : k = 0 ∨ k = 1 ∨ k = 2 ∨ k = 3 ∨ (k ≠ 0 ∧ k ≠ 1 ∧ k ≠ 2 ∧ k ≠ 3) := by omega
  have hp := s_impl_paramsCode ns hl
  have hp0 := s_impl_paramsCode [] (by simp)
  have hn : ns = [] ∨ (ns ≠ [] ∧ 0 < ns.length) := by
    cases ns with
    | nil => exact .inl rfl
    | cons a b => exact .inr ⟨by simp, by simp⟩
  rcases hk with rfl | rfl | rfl | rfl | ⟨k0, k1, k2, k3⟩
  all_goals try (rcases hn with hn | ⟨hn, hn2⟩ <;> rcases Classical.propComplete (s = 0) with hs | hs <;> cases lead <;> cases i12 : inB s 1 2 <;> simp -implicitDefEqProofs [X_impl_ParserFault, retK_eq, s_impl_in, s_impl_unless, s_impl_first, s_impl_isSet, unl, hp, parF, emP, *])
end Go.Ab
