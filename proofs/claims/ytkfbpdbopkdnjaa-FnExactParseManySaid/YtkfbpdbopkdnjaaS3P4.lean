/- What the functions of the program answer, for all arguments that the theorems name as conditions. -/
import Derived.Test.YtkfbpdbopkdnjaaS3P3
namespace Go.Ab
set_option linter.unusedSimpArgs false
set_option linter.unusedVariables false
set_option maxHeartbeats 8000000

theorem s_spec_l4Copy (p : ParT) (hl : p.ns.length < 1000000000) : X_spec_l4Copy [parV p] [] = some (parW p (slO 0 p.ns.length), [ownB eI6 p.ns]) := by
  have h1 := fun m n c => apL_frS (E := eI6) (m := m) (sz := 1) (bytes := 8) (n := n) (o := 0) (len := 0) (c := c) (l := p.ns) rfl (by omega) (by omega)
  simp +contextual -implicitDefEqProofs [X_spec_l4Copy, retK_eq, h1]
theorem s_spec_l4Step (p : ParT) (c : Int) (hp : parF p = 0) (hc : 0 ≤ c ∧ c ≤ 65535) : ∃ va vp m, HF (stepP p c).1.ns (stepP p c).2.ns va vp m ∧ X_spec_l4Step [parV p, .int .i64 c] [] = some (.tuple #[actW (stepP p c).1 va, parW (stepP p c).2 vp], m) := by
  obtain ⟨k0, k1, k2, k3, k4⟩ := par_facts hp
  by_cases c1 : c = 24
  · subst c1
    refine ⟨nil0, nil0, [], .inl ⟨rfl, rfl, rfl, rfl, rfl⟩, ?_⟩
    simp -implicitDefEqProofs [X_spec_l4Step, retK_eq, stepP, a0, p0]
  by_cases c2 : c = 26
  · subst c2
    refine ⟨nil0, nil0, [], .inl ⟨rfl, rfl, rfl, rfl, rfl⟩, ?_⟩
    simp -implicitDefEqProofs [X_spec_l4Step, retK_eq, stepP, a0, p0]
  by_cases c3 : c = 27
  · subst c3
    refine ⟨nil0, nil0, [], .inl ⟨rfl, rfl, rfl, rfl, rfl⟩, ?_⟩
    simp -implicitDefEqProofs [X_spec_l4Step, retK_eq, stepP, a0, p0]
  by_cases c4 : c < 32
  · have e1 : (stepP p c).1 = ⟨2, c, 0, false, []⟩ := by simp [stepP, c1, c2, c3, c4]
    have e2 : (stepP p c).2 = p := by simp [stepP, c1, c2, c3, c4]
    rw [e1, e2]
    by_cases hk : p.k = 2
    · obtain ⟨n1, n2, _⟩ := k2 hk
      have hcl := s_spec_l4Copy p (by omega)
      refine ⟨nil0, slO 0 p.ns.length, [ownB eI6 p.ns], .inr (.inr (.inl ⟨rfl, rfl, rfl, rfl⟩)), ?_⟩
      simp -implicitDefEqProofs [X_spec_l4Step, retK_eq, c1, c2, c3, c4, hcl]
    · obtain ⟨n1, n2⟩ := k1 hk
      have hcl := s_spec_l4Copy p (by rw [n1]; simp)
      refine ⟨nil0, slO 0 p.ns.length, [ownB eI6 p.ns], .inr (.inr (.inl ⟨rfl, rfl, rfl, rfl⟩)), ?_⟩
      simp -implicitDefEqProofs [X_spec_l4Step, retK_eq, c1, c2, c3, c4, hcl]
  by_cases c5 : c = 127
  · subst c5
    have e1 : (stepP p 127).1 = a0 := by simp [stepP]
    have e2 : (stepP p 127).2 = p := by simp [stepP]
    rw [e1, e2]
    by_cases hk : p.k = 2
    · obtain ⟨n1, n2, _⟩ := k2 hk
      have hcl := s_spec_l4Copy p (by omega)
      refine ⟨nil0, slO 0 p.ns.length, [ownB eI6 p.ns], .inr (.inr (.inl ⟨rfl, rfl, rfl, rfl⟩)), ?_⟩
      simp -implicitDefEqProofs [X_spec_l4Step, retK_eq, hcl, a0]
    · obtain ⟨n1, n2⟩ := k1 hk
      have hcl := s_spec_l4Copy p (by rw [n1]; simp)
      refine ⟨nil0, slO 0 p.ns.length, [ownB eI6 p.ns], .inr (.inr (.inl ⟨rfl, rfl, rfl, rfl⟩)), ?_⟩
      simp -implicitDefEqProofs [X_spec_l4Step, retK_eq, hcl, a0]
  have e0 : stepP p c = if p.k = 0 then (⟨1, c, 0, false, []⟩, p0) else if p.k = 1 then stepE c else if p.k = 3 then (⟨5, c, p.s, false, []⟩, p0) else stepN p c := by simp [stepP, c1, c2, c3, c4, c5]
  rw [e0]
  by_cases h0 : p.k = 0
  · rw [if_pos h0]
    refine ⟨nil0, nil0, [], .inl ⟨rfl, rfl, rfl, rfl, rfl⟩, ?_⟩
    simp -implicitDefEqProofs [X_spec_l4Step, retK_eq, c1, c2, c3, c4, c5, h0, p0]
  rw [if_neg h0]
  by_cases h1 : p.k = 1
  · rw [if_pos h1]
    obtain ⟨vp, mp, hs, hn, h⟩ := s_spec_l4Escape c hc
    rcases hs with ⟨e2, rfl, rfl | rfl⟩ | ⟨rfl, rfl⟩
    · refine ⟨nil0, nil0, [], .inl ⟨hn, e2, rfl, rfl, rfl⟩, ?_⟩
      simp -implicitDefEqProofs [X_spec_l4Step, retK_eq, c1, c2, c3, c4, c5, h0, h1, h]
    · refine ⟨nil0, roS 0 [], [], .inr (.inl ⟨hn, e2, rfl, rfl, rfl⟩), ?_⟩
      simp -implicitDefEqProofs [X_spec_l4Step, retK_eq, c1, c2, c3, c4, c5, h0, h1, h]
    · refine ⟨nil0, _, [ownB eI6 (stepE c).2.ns], .inr (.inr (.inl ⟨hn, rfl, rfl, rfl⟩)), ?_⟩
      simp -implicitDefEqProofs [X_spec_l4Step, retK_eq, c1, c2, c3, c4, c5, h0, h1, h]
  rw [if_neg h1]
  by_cases h3 : p.k = 3
  · rw [if_pos h3]
    refine ⟨nil0, nil0, [], .inl ⟨rfl, rfl, rfl, rfl, rfl⟩, ?_⟩
    simp -implicitDefEqProofs [X_spec_l4Step, retK_eq, c1, c2, c3, c4, c5, h0, h1, h3, p0]
  rw [if_neg h3]
  have h2 : (p.k = 2) = True := eq_true (by omega)
  obtain ⟨n1, n2, n3⟩ := k2 (by omega)
  have hcl := s_spec_l4Copy p (by omega)
  obtain ⟨va, vp, m, h, hs⟩ := s_spec_l4Param p c hc n1 n2 n3
  rcases hs with ⟨rfl, s1, rfl, rfl⟩ | ⟨rfl, s1, rfl, rfl⟩ | ⟨rfl, rfl, s1, s2, rfl⟩ | ⟨rfl, rfl, s2, rfl⟩
  · refine ⟨nil0, slO 0 (stepN p c).2.ns.length, [ownB eI6 (stepN p c).2.ns], .inr (.inr (.inl ⟨s1, rfl, rfl, rfl⟩)), ?_⟩
    simp -implicitDefEqProofs [X_spec_l4Step, retK_eq, c1, c2, c3, c4, c5, h0, h1, h3, h2, hcl, h]
  · refine ⟨nil0, slO 0 (stepN p c).2.ns.length, [ownB eI6 (stepN p c).2.ns], .inr (.inr (.inl ⟨s1, rfl, rfl, rfl⟩)), ?_⟩
    simp -implicitDefEqProofs [X_spec_l4Step, retK_eq, c1, c2, c3, c4, c5, h0, h1, h3, h2, hcl, h]
  · refine ⟨nil0, nil0, [], .inl ⟨s1, s2, rfl, rfl, rfl⟩, ?_⟩
    simp -implicitDefEqProofs [X_spec_l4Step, retK_eq, c1, c2, c3, c4, c5, h0, h1, h3, h2, hcl, h]
  · refine ⟨slO 0 (stepN p c).1.ns.length, nil0, [ownB eI6 (stepN p c).1.ns], .inr (.inr (.inr ⟨s2, rfl, rfl, rfl⟩)), ?_⟩
    simp -implicitDefEqProofs [X_spec_l4Step, retK_eq, c1, c2, c3, c4, c5, h0, h1, h3, h2, hcl, h]
end Go.Ab
