/- What the functions of the program answer, for all arguments that the theorems name as conditions. -/
import Derived.Test.YtkfbpdbopkdnjaaS3P0
namespace Go.Ab
set_option linter.unusedSimpArgs false
set_option linter.unusedVariables false
set_option maxHeartbeats 8000000

/-! ## A step leaves no fault -/
theorem prm_ok {l : List Int} (h0 : 1 ≤ l.length) (h1 : l.length ≤ 6) (h2 : ∀ x ∈ l, 0 ≤ x ∧ x ≤ 999) : prmF l = 0 := by
  unfold prmF
  have e1 : inB l.length 1 6 = true := by simp [inB]; omega
  have e2 : allP l = true := by
    unfold allP
    rw [List.all_eq_true]
    intro x hx
    have := h2 x hx
    simp [inB]
    omega
  simp [e1, e2]
theorem par_2 {s : Int} {b : Bool} {l : List Int} (hs : s = 0) (h0 : 1 ≤ l.length) (h1 : l.length ≤ 6) (h2 : ∀ x ∈ l, 0 ≤ x ∧ x ≤ 999) : parF ⟨2, s, b, l⟩ = 0 := by
  subst hs
  simp [parF, prm_ok h0 h1 h2]
theorem parF_p0 : parF p0 = 0 := by decide
theorem step_ok {p : ParT} {c : Int} (hp : parF p = 0) (hc : 0 ≤ c ∧ c ≤ 65535) : parF (stepP p c).2 = 0 := by
  obtain ⟨k0, k1, k2, k3, k4⟩ := par_facts hp
  by_cases c1 : c = 24
  · simp [stepP, c1, parF_p0]
  by_cases c2 : c = 26
  · simp [stepP, c2, parF_p0]
  by_cases c3 : c = 27
  · simp [stepP, c3]; decide
  by_cases c4 : c < 32
  · simp [stepP, c1, c2, c3, c4, hp]
  by_cases c5 : c = 127
  · simp [stepP, c5, hp]
  by_cases h0 : p.k = 0
  · simp [stepP, c1, c2, c3, c4, c5, h0, parF_p0]
  by_cases h1 : p.k = 1
  · have e : (stepP p c).2 = (stepE c).2 := by simp [stepP, c1, c2, c3, c4, c5, h0, h1]
    rw [e]
    unfold stepE
    repeat' split
    · decide
    · decide
    · decide
    · exact parF_p0
    · exact parF_p0
  by_cases h3 : p.k = 3
  · simp [stepP, c1, c2, c3, c4, c5, h0, h1, h3, parF_p0]
  have e : (stepP p c).2 = (stepN p c).2 := by simp [stepP, c1, c2, c3, c4, c5, h0, h1, h3]
  rw [e]
  have h2 : p.k = 2 := by omega
  obtain ⟨n1, n2, n3⟩ := k2 h2
  have hs := k3 (by omega)
  unfold stepN
  repeat' split
  · rename_i hi
    have hcb : 48 ≤ c ∧ c ≤ 57 := by simp [inB] at hi; exact hi
    simp only
    rw [h2]
    refine par_2 hs (by simp [dig]; exact n1) (by simp [dig]; exact n2) (fun x hx => ?_)
    unfold dig at hx
    rcases List.mem_or_eq_of_mem_set hx with h | h
    · exact n3 x h
    · have hg := gt_in n3 (i := p.ns.length - 1) (by omega)
      subst h
      omega
  · simp only
    rw [h2]
    refine par_2 hs (by simp) (by simp; omega) (fun x hx => ?_)
    rcases List.mem_append.1 hx with h | h
    · exact n3 x h
    · simp at h; subst h; omega
  · exact hp
  · simp only
    rw [h2]
    exact par_2 hs n1 n2 n3
  · exact parF_p0
  · exact parF_p0
  · exact hp
end Go.Ab
