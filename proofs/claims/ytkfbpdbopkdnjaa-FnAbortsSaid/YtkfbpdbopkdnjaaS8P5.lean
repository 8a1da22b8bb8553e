/- What the functions of the program answer, for all arguments that the theorems name as conditions. -/
import Derived.Test.YtkfbpdbopkdnjaaS8P2
import Derived.Test.YtkfbpdbopkdnjaaS8P4
import Derived.Test.YtkfbpdbopkdnjaaS8B2
namespace Go.Ab
set_option linter.unusedSimpArgs false
set_option linter.unusedVariables false
set_option maxHeartbeats 8000000

/-! ## StepParser of both -/
abbrev sprZ (k : Int) : Value := .agg #[.int .i64 k, .int .i64 0, .int .i64 0, .int .i64 0, .bool false, nil0, .int .i64 0, .int .i64 0, .bool false, nil0]
abbrev sprW (a : ActT) (p : ParT) (va vp : Value) : Value := .agg #[.int .i64 0, .int .i64 a.k, .int .i64 a.c, .int .i64 a.s, .bool a.lead, va, .int .i64 p.k, .int .i64 p.s, .bool p.lead, vp]
theorem s_impl_StepParser_bad (p : ParT) (c : Int) (hl : p.ns.length < 1000000000) (h : ¬ (parF p = 0 ∧ chB c = true)) : X_impl_StepParser [parV p, .int .i64 c] [] = some (sprZ (if parF p = 0 then 3 else parF p), []) := by
  have c1 := s_impl_ParserFault p hl
  by_cases h1 : parF p = 0
  · have h2 : chB c = false := by cases h3 : chB c; · rfl
                                  · exact absurd ⟨h1, h3⟩ h
    simp -implicitDefEqProofs [X_impl_StepParser, retK_eq, c1, s_impl_isChar, s_impl_unless, s_impl_first, unl, h1, h2]
  · simp -implicitDefEqProofs [X_impl_StepParser, retK_eq, c1, s_impl_isChar, s_impl_unless, s_impl_first, h1]
theorem s_impl_StepParser (p : ParT) (c : Int) (hl : p.ns.length < 1000000000) (h1 : parF p = 0) (h2 : chB c = true) : ∃ va vp m, HF (stepP p c).1.ns (stepP p c).2.ns va vp m ∧ X_impl_StepParser [parV p, .int .i64 c] [] = some (sprW (stepP p c).1 (stepP p c).2 va vp, m) := by
  have c1 := s_impl_ParserFault p hl
  obtain ⟨va, vp, m, hs, h⟩ := s_impl_hear p c h1 (chB_b h2)
  refine ⟨va, vp, m, hs, ?_⟩
  generalize stepP p c = r at *
  rcases hs with ⟨e1, e2, rfl, rfl, rfl⟩ | ⟨e1, e2, rfl, rfl, rfl⟩ | ⟨e1, rfl, rfl, rfl⟩ | ⟨e1, rfl, rfl, rfl⟩ <;> simp (maxSteps := 400000) -implicitDefEqProofs [X_impl_StepParser, retK_eq, c1, s_impl_isChar, s_impl_unless, s_impl_first, unl, h1, h2, h]
theorem s_spec_StepParser_bad (p : ParT) (c : Int) (hl : p.ns.length < 1000000000) (h : ¬ (parF p = 0 ∧ chB c = true)) : X_spec_StepParser [parV p, .int .i64 c] [] = some (sprZ (if parF p = 0 then 3 else parF p), []) := by
  have c1 := fun rest => s_spec_l4Fault p hl rest
  by_cases h1 : parF p = 0
  · have h2 : chB c = false := by cases h3 : chB c; · rfl
                                  · exact absurd ⟨h1, h3⟩ h
    simp -implicitDefEqProofs [X_spec_StepParser, retK_eq, c1, s_spec_l1Char, h1, h2]
  · simp -implicitDefEqProofs [X_spec_StepParser, retK_eq, c1, s_spec_l1Char, h1]
theorem s_spec_StepParser (p : ParT) (c : Int) (hl : p.ns.length < 1000000000) (h1 : parF p = 0) (h2 : chB c = true) : ∃ va vp m, HF (stepP p c).1.ns (stepP p c).2.ns va vp m ∧ X_spec_StepParser [parV p, .int .i64 c] [] = some (sprW (stepP p c).1 (stepP p c).2 va vp, m) := by
  have c1 := fun rest => s_spec_l4Fault p hl rest
  obtain ⟨va, vp, m, hs, h⟩ := s_spec_l4Step p c h1 (chB_b h2)
  refine ⟨va, vp, m, hs, ?_⟩
  generalize stepP p c = r at *
  rcases hs with ⟨e1, e2, rfl, rfl, rfl⟩ | ⟨e1, e2, rfl, rfl, rfl⟩ | ⟨e1, rfl, rfl, rfl⟩ | ⟨e1, rfl, rfl, rfl⟩ <;> simp (maxSteps := 400000) -implicitDefEqProofs [X_spec_StepParser, retK_eq, c1, s_spec_l1Char, h1, h2, h]
end Go.Ab
