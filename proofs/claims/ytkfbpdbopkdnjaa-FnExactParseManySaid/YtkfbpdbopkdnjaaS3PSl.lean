/- What the functions of the program answer, for all arguments that the theorems name as conditions. -/
import Derived.Test.YtkfbpdbopkdnjaaS3P0
namespace Go.Ab
set_option linter.unusedSimpArgs false
set_option linter.unusedVariables false
set_option maxHeartbeats 40000000

theorem step_len {p : ParT} {c : Int} (hp : parF p = 0) : (stepP p c).1.ns.length ≤ 7 ∧ (stepP p c).2.ns.length ≤ 7 := by
  obtain ⟨k0, k1, k2, k3, k4⟩ := par_facts hp
  have hl : p.ns.length ≤ 6 := by
    by_cases h : p.k = 2
    · exact (k2 h).2.1
    · rw [(k1 h).1]; simp
  generalize hr : stepP p c = r
  have he : ∀ x, stepE c = x → x.1.ns.length ≤ 7 ∧ x.2.ns.length ≤ 7 := by
    intro x hx
    unfold stepE at hx
    repeat' split at hx
    all_goals subst hx; simp [a0, p0]
  have hn : ∀ x, stepN p c = x → x.1.ns.length ≤ 7 ∧ x.2.ns.length ≤ 7 := by
    intro x hx
    unfold stepN at hx
    repeat' split at hx
    all_goals subst hx; simp [a0, p0, dig]
    all_goals omega
  subst hr
  by_cases c1 : c = 24
  · simp [stepP, c1, a0, p0]
  by_cases c2 : c = 26
  · simp [stepP, c2, a0, p0]
  by_cases c3 : c = 27
  · simp [stepP, c3, a0]
  by_cases c4 : c < 32
  · simp [stepP, c1, c2, c3, c4]; omega
  by_cases c5 : c = 127
  · simp [stepP, c5, a0]; omega
  by_cases h0 : p.k = 0
  · simp [stepP, c1, c2, c3, c4, c5, h0, p0]
  by_cases h1 : p.k = 1
  · simp only [stepP, c1, c2, c3, c4, c5, h0, h1, if_true, if_false]
    exact he _ rfl
  by_cases h3 : p.k = 3
  · simp [stepP, c1, c2, c3, c4, c5, h0, h1, h3, p0]
  simp only [stepP, c1, c2, c3, c4, c5, h0, h1, h3, if_true, if_false]
  exact hn _ rfl
end Go.Ab
