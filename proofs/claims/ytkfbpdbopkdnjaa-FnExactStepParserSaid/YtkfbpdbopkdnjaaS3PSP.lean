/- What the functions of the program answer, for all arguments that the theorems name as conditions. -/
import Derived.Test.YtkfbpdbopkdnjaaS3P5
import Derived.Test.YtkfbpdbopkdnjaaS3P6
import Derived.Test.YtkfbpdbopkdnjaaS3P7
namespace Go.Ab
set_option linter.unusedSimpArgs false
set_option linter.unusedVariables false
set_option maxHeartbeats 40000000

/-! ## FnExactStepParser -/
abbrev sprV (k : Int) (a : ActT) (p : ParT) : Value := .agg #[.int .i64 k, .int .i64 a.k, .int .i64 a.c, .int .i64 a.s, .bool a.lead, frS eI6 a.ns, .int .i64 p.k, .int .i64 p.s, .bool p.lead, frS eI6 p.ns]
theorem s_eqParserResult (k : Int) (a : ActT) (p : ParT) (ha : a.ns.length < 1000000000) (hp : p.ns.length < 1000000000) : X_laws_eqParserResult [sprV k a p, sprV k a p] [] = some (.bool true, []) := by
  have h1 := s_eqAction a ha
  have h2 := s_eqParser p hp
  simp -implicitDefEqProofs [X_laws_eqParserResult, retK_eq, h1, h2]
theorem mark_F1 (k : Int) (a : ActT) (p : ParT) (va vp : Value) (e1 : a.ns = []) (e2 : p.ns = []) (h1 : va = nil0) (h2 : vp = nil0 ∨ vp = roS 0 []) : X_laws_markParserResult [.agg #[.int .i64 k, .int .i64 a.k, .int .i64 a.c, .int .i64 a.s, .bool a.lead, va, .int .i64 p.k, .int .i64 p.s, .bool p.lead, vp], .int .i64 1] [] = some (.int .i64 1, []) := by
  subst h1
  obtain ⟨m1, q1, h1⟩ := s_markAction a nil0 [] 1 (.inl ⟨e1, rfl, .inl rfl⟩) (by rw [e1]; simp) (by omega) (by omega)
  obtain ⟨m2, q2, h2'⟩ := s_markParser p vp [] 1 (.inl ⟨e2, rfl, h2⟩) (by rw [e2]; simp) (by omega) (by omega)
  rcases q1 with ⟨_, rfl, _⟩ | ⟨h, _⟩
  · rcases h2 with rfl | rfl
    · rcases q2 with ⟨_, rfl, _⟩ | ⟨h, _⟩
      · rw [e1] at h1; rw [e2] at h2'
        simp at h1 h2'
        simp -implicitDefEqProofs [X_laws_markParserResult, retK_eq, h1, h2', e1, e2]
      · cases h
    · rcases q2 with ⟨_, rfl, _⟩ | ⟨h, _⟩
      · rw [e1] at h1; rw [e2] at h2'
        simp at h1 h2'
        simp -implicitDefEqProofs [X_laws_markParserResult, retK_eq, h1, h2', e1, e2]
      · cases h
  · cases h
theorem mark_F3 (k : Int) (a : ActT) (p : ParT) (e1 : a.ns = []) (hp : p.ns.length < 1000000) : X_laws_markParserResult [.agg #[.int .i64 k, .int .i64 a.k, .int .i64 a.c, .int .i64 a.s, .bool a.lead, nil0, .int .i64 p.k, .int .i64 p.s, .bool p.lead, slO 0 p.ns.length], .int .i64 1] [ownB eI6 p.ns] = some (.int .i64 (1 + p.ns.length), [ownB eI6 (markI 1 p.ns.length)]) := by
  obtain ⟨m1, q1, h1⟩ := s_markAction a nil0 [] 1 (.inl ⟨e1, rfl, .inl rfl⟩) (by rw [e1]; simp) (by omega) (by omega)
  have h2 := s_markInt64S p.ns 1 (by omega) (by omega) (by omega)
  have h2 : X_laws_markParser [parW p (slO 0 p.ns.length), .int .i64 1] [ownB eI6 p.ns] = some (.int .i64 (1 + p.ns.length), [ownB eI6 (markI 1 p.ns.length)]) := by
    simp +contextual -implicitDefEqProofs [X_laws_markParser, retK_eq, h2]
  rcases q1 with ⟨_, rfl, _⟩ | ⟨h, _⟩
  · rw [e1] at h1
    simp at h1
    simp -implicitDefEqProofs [X_laws_markParserResult, retK_eq, h1, h2, e1]
  · cases h
theorem mark_F4 (k : Int) (a : ActT) (p : ParT) (e1 : p.ns = []) (ha : a.ns.length < 1000000) : X_laws_markParserResult [.agg #[.int .i64 k, .int .i64 a.k, .int .i64 a.c, .int .i64 a.s, .bool a.lead, slO 0 a.ns.length, .int .i64 p.k, .int .i64 p.s, .bool p.lead, nil0], .int .i64 1] [ownB eI6 a.ns] = some (.int .i64 (1 + a.ns.length), [ownB eI6 (markI 1 a.ns.length)]) := by
  have h1 := s_markInt64S a.ns 1 (by omega) (by omega) (by omega)
  have h1 : X_laws_markAction [actW a (slO 0 a.ns.length), .int .i64 1] [ownB eI6 a.ns] = some (.int .i64 (1 + a.ns.length), [ownB eI6 (markI 1 a.ns.length)]) := by
    simp +contextual -implicitDefEqProofs [X_laws_markAction, retK_eq, h1]
  obtain ⟨m2, q2, h2⟩ := s_markParser p nil0 [] (1 + a.ns.length) (.inl ⟨e1, rfl, .inl rfl⟩) (by rw [e1]; simp) (by omega) (by omega)
  rcases q2 with ⟨_, rfl, _⟩ | ⟨h, _⟩
  · rw [e1] at h2
    simp at h2
    simp -implicitDefEqProofs [X_laws_markParserResult, retK_eq, h1, h2, e1]
  · cases h
theorem s_heldParserResult (k : Int) (a : ActT) (p : ParT) (ha : a.ns.length < 1000000) (hp : p.ns.length < 1000000) : X_laws_heldParserResult [.agg #[.int .i64 k, .int .i64 a.k, .int .i64 a.c, .int .i64 a.s, .bool a.lead, frS eI6 (markI 1 a.ns.length), .int .i64 p.k, .int .i64 p.s, .bool p.lead, frS eI6 (markI (1 + a.ns.length) p.ns.length)], .int .i64 1] [] = some (.int .i64 (1 + a.ns.length + p.ns.length), []) := by
  have h1 := s_heldAction ⟨a.k, a.c, a.s, a.lead, markI 1 a.ns.length⟩ 1 a.ns.length rfl (by omega) (by omega) (by omega)
  have h2 := s_heldParser ⟨p.k, p.s, p.lead, markI (1 + a.ns.length) p.ns.length⟩ (1 + a.ns.length) p.ns.length rfl (by omega) (by omega) (by omega)
  have g1 : ¬ (1 + (a.ns.length : Int)) < 0 := by omega
  have g2 : ¬ (1 + (a.ns.length : Int) + p.ns.length) < 0 := by omega
  simp -implicitDefEqProofs [X_laws_heldParserResult, retK_eq, h1, h2, g1, g2]
theorem step_len {p : ParT} {c : Int} (hp : parF p = 0) : (stepP p c).1.ns.length ≤ 7 ∧ (stepP p c).2.ns.length ≤ 7 := by
  obtain ⟨k0, k1, k2, k3, k4⟩ := par_facts hp
  have hl : p.ns.length ≤ 6 := by
    by_cases h : p.k = 2
    · exact (k2 h).2.1
    · rw [(k1 h).1]; simp
  generalize hr : stepP p c = r
  have he : ∀ x, stepE c = x → x.1.ns.length ≤ 7 ∧ x.2.ns.length ≤ 7 := by
    intro x hx
    unfold stepE at hx
    repeat' split at hx
    all_goals subst hx; simp [a0, p0]
  have hn : ∀ x, stepN p c = x → x.1.ns.length ≤ 7 ∧ x.2.ns.length ≤ 7 := by
    intro x hx
    unfold stepN at hx
    repeat' split at hx
    all_goals subst hx; simp [a0, p0, dig]
    all_goals omega
  subst hr
  by_cases c1 : c = 24
  · simp [stepP, c1, a0, p0]
  by_cases c2 : c = 26
  · simp [stepP, c2, a0, p0]
  by_cases c3 : c = 27
  · simp [stepP, c3, a0]
  by_cases c4 : c < 32
  · simp [stepP, c1, c2, c3, c4]; omega
  by_cases c5 : c = 127
  · simp [stepP, c5, a0]; omega
  by_cases h0 : p.k = 0
  · simp [stepP, c1, c2, c3, c4, c5, h0, p0]
  by_cases h1 : p.k = 1
  · simp only [stepP, c1, c2, c3, c4, c5, h0, h1, if_true, if_false]
    exact he _ rfl
  by_cases h3 : p.k = 3
  · simp [stepP, c1, c2, c3, c4, c5, h0, h1, h3, p0]
  simp only [stepP, c1, c2, c3, c4, c5, h0, h1, h3, if_true, if_false]
  exact hn _ rfl
theorem s_FnExactStepParser (p : ParT) (c : Int) (hp : p.ns.length ≤ 9223372036854775807) : X_laws_FnExactStepParser [parV p, .int .i64 c] [] = some (.bool true, []) := by
  have c0 := s_szParser p 1048576 hp (by omega) (by omega)
  by_cases h0 : szP p 1048576 < 0
  · simp (maxSteps := 2000000) +contextual -implicitDefEqProofs [X_laws_FnExactStepParser, retK_eq, c0, h0]
  · have hl : p.ns.length < 1000000000 := szN_small (x := 1048576) (by omega) (by unfold szP at h0; omega)
    have c1 := s_toParser p hl
    have c3 := s_eqParser p hl
    have c4 : X_laws_markParser [parO p 0, .int .i64 1] [ownB eI6 p.ns] = some (.int .i64 (1 + p.ns.length), [ownB eI6 (markI 1 p.ns.length)]) := by
      have h2 := s_markInt64S p.ns 1 hl (by omega) (by omega)
      simp +contextual -implicitDefEqProofs [X_laws_markParser, retK_eq, h2]
    have u : ¬ (1 + (p.ns.length : Int)) < 0 := by omega
    by_cases hok : parF p = 0 ∧ chB c = true
    · obtain ⟨h1, h2⟩ := hok
      obtain ⟨vs, vs2, ms, hs, d1⟩ := s_spec_StepParser p c hl h1 h2
      obtain ⟨vi, vi2, mi, hi, d2⟩ := s_impl_StepParser p c hl h1 h2
      have hln := step_len (c := c) h1
      generalize (stepP p c).1 = a at *
      generalize (stepP p c).2 = r at *
      have d3 := s_eqParserResult 0 a r (by omega) (by omega)
      have d5 := s_heldParserResult 0 a r (by omega) (by omega)
      have g1 : ¬ (1 + (a.ns.length : Int)) < 0 := by omega
      have g2 : ¬ (1 + (a.ns.length : Int) + r.ns.length) < 0 := by omega
      have g3 : ¬ (1 + (r.ns.length : Int)) < 0 := by omega
      have fa := fun k m => fzO_own eI6 k m (markI 1 a.ns.length)
      have fr := fun k m => fzO_own eI6 k m (markI 1 r.ns.length)
      simp only [markI_len] at fa fr
      have z0 : ∀ k m b, fzO k m b 0 0 = some (roS 0 []) := fun k m b => rfl
      rcases hi with ⟨e1, e2, rfl, rfl, rfl⟩ | ⟨e1, e2, rfl, rfl, rfl⟩ | ⟨e1, rfl, rfl, rfl⟩ | ⟨e1, rfl, rfl, rfl⟩
      · have d4 := mark_F1 0 a r nil0 nil0 e1 e2 rfl (.inl rfl)
        obtain ⟨ak, ac, sa, al, an⟩ := a
        obtain ⟨rk, rs, rl, rn⟩ := r
        simp only at e1 e2
        subst e1 e2
        simp [sprV, frS_nil, markI] at d3 d4 d5
        try simp only [sprV, frS_nil] at d3 d5
        rcases hs with ⟨f1, f2, rfl, rfl, rfl⟩ | ⟨f1, f2, rfl, rfl, rfl⟩ | ⟨f1, rfl, rfl, rfl⟩ | ⟨f1, rfl, rfl, rfl⟩ <;> (try simp at d1) <;> (try simp at d2) <;> (try simp only [frS_nil, List.length_nil] at *) <;> simp (maxSteps := 4000000) -implicitDefEqProofs [X_laws_FnExactStepParser, retK_eq, c0, h0, c1, c3, c4, u, d1, d2, d3, d4, d5, z0, frS_nil, frS_nil]
      · have d4 := mark_F1 0 a r nil0 (roS 0 []) e1 e2 rfl (.inr rfl)
        obtain ⟨ak, ac, sa, al, an⟩ := a
        obtain ⟨rk, rs, rl, rn⟩ := r
        simp only at e1 e2
        subst e1 e2
        simp [sprV, frS_nil, markI] at d3 d4 d5
        try simp only [sprV, frS_nil] at d3 d5
        rcases hs with ⟨f1, f2, rfl, rfl, rfl⟩ | ⟨f1, f2, rfl, rfl, rfl⟩ | ⟨f1, rfl, rfl, rfl⟩ | ⟨f1, rfl, rfl, rfl⟩ <;> (try simp at d1) <;> (try simp at d2) <;> (try simp only [frS_nil, List.length_nil] at *) <;> simp (maxSteps := 4000000) -implicitDefEqProofs [X_laws_FnExactStepParser, retK_eq, c0, h0, c1, c3, c4, u, d1, d2, d3, d4, d5, z0, frS_nil, frS_nil]
      · have d4 := mark_F3 0 a r e1 (by omega)
        by_cases hr : r.ns = []
        · obtain ⟨ak, ac, sa, al, an⟩ := a
          obtain ⟨rk, rs, rl, rn⟩ := r
          simp only at e1 hr
          subst e1 hr
          simp [sprV, frS_nil, markI] at d3 d4 d5
          try simp only [sprV, frS_nil] at d3 d5
          rcases hs with ⟨f1, f2, rfl, rfl, rfl⟩ | ⟨f1, f2, rfl, rfl, rfl⟩ | ⟨f1, rfl, rfl, rfl⟩ | ⟨f1, rfl, rfl, rfl⟩ <;> (try simp at d1) <;> (try simp at d2) <;> (try simp only [frS_nil, List.length_nil] at *) <;> simp (maxSteps := 4000000) -implicitDefEqProofs [X_laws_FnExactStepParser, retK_eq, c0, h0, c1, c3, c4, u, d1, d2, d3, d4, d5, z0, frS_nil, frS_nil]
        · obtain ⟨ak, ac, sa, al, an⟩ := a
          simp only at e1
          subst e1
          simp [sprV, frS_nil, markI] at d3 d4 d5
          try simp only [sprV, frS_nil] at d3 d5
          rcases hs with ⟨f1, f2, rfl, rfl, rfl⟩ | ⟨f1, f2, rfl, rfl, rfl⟩ | ⟨f1, rfl, rfl, rfl⟩ | ⟨f1, rfl, rfl, rfl⟩
          · exact absurd f2 hr
          · exact absurd f2 hr
          · simp (maxSteps := 4000000) -implicitDefEqProofs [X_laws_FnExactStepParser, retK_eq, c0, h0, c1, c3, c4, u, d1, d2, d3, d4, d5, z0, frS_nil, frS_nil, fr, g3]
          · exact absurd f1 hr
      · have d4 := mark_F4 0 a r e1 (by omega)
        by_cases hr : a.ns = []
        · obtain ⟨ak, ac, sa, al, an⟩ := a
          obtain ⟨rk, rs, rl, rn⟩ := r
          simp only at e1 hr
          subst e1 hr
          simp [sprV, frS_nil, markI] at d3 d4 d5
          try simp only [sprV, frS_nil] at d3 d5
          rcases hs with ⟨f1, f2, rfl, rfl, rfl⟩ | ⟨f1, f2, rfl, rfl, rfl⟩ | ⟨f1, rfl, rfl, rfl⟩ | ⟨f1, rfl, rfl, rfl⟩ <;> (try simp at d1) <;> (try simp at d2) <;> (try simp only [frS_nil, List.length_nil] at *) <;> simp (maxSteps := 4000000) -implicitDefEqProofs [X_laws_FnExactStepParser, retK_eq, c0, h0, c1, c3, c4, u, d1, d2, d3, d4, d5, z0, frS_nil, frS_nil]
        · obtain ⟨rk, rs, rl, rn⟩ := r
          simp only at e1
          subst e1
          simp [sprV, frS_nil, markI] at d3 d4 d5
          try simp only [sprV, frS_nil] at d3 d5
          rcases hs with ⟨f1, f2, rfl, rfl, rfl⟩ | ⟨f1, f2, rfl, rfl, rfl⟩ | ⟨f1, rfl, rfl, rfl⟩ | ⟨f1, rfl, rfl, rfl⟩
          · exact absurd f1 hr
          · exact absurd f1 hr
          · exact absurd f1 hr
          · simp (maxSteps := 4000000) -implicitDefEqProofs [X_laws_FnExactStepParser, retK_eq, c0, h0, c1, c3, c4, u, d1, d2, d3, d4, d5, z0, frS_nil, frS_nil, fa, g1]
    · have d1 := s_spec_StepParser_bad p c hl hok
      have d2 := s_impl_StepParser_bad p c hl hok
      generalize (if parF p = 0 then 3 else parF p) = k at *
      have d3 := s_eqParserResult k a0 p0 (by simp [a0]) (by simp [p0])
      have d4 := mark_F1 k a0 p0 nil0 nil0 rfl rfl rfl (.inl rfl)
      have d5 := s_heldParserResult k a0 p0 (by simp [a0]) (by simp [p0])
      simp [sprV, a0, p0, frS_nil, markI] at d3 d4 d5
      simp (maxSteps := 4000000) -implicitDefEqProofs [X_laws_FnExactStepParser, retK_eq, c0, h0, c1, c3, c4, u, d1, d2, d3, d4, d5]
def good : List Nat := [2, 4, 28, 50]
theorem good_ok : goodB CT good = true := by kernel_rfl
theorem all_FnExactStepParser : ∀ xs, TypedAll CT [50, 2] xs → Fz CT 5 xs (.bool true)
  | [a, b], h => by
    obtain ⟨p, rfl, hp⟩ := typed_par h.1
    obtain ⟨x, rfl, _⟩ := typed_i64 (i := 2) h.2.1 rfl
    exact fz_law ok_X_laws_FnExactStepParser (s_FnExactStepParser p x hp) (by simp)
  | [], h => h.elim
  | [_], h => h.2.elim
  | _ :: _ :: _ :: _, h => h.2.2.elim
end Go.Ab
