/- What the functions of the program answer, for all arguments that the theorems name as conditions. -/
import Derived.Test.YtkfbpdbopkdnjaaS3B4
import Derived.Test.YtkfbpdbopkdnjaaS3P0
namespace Go.Ab
open Go.Proofs
set_option linter.unusedSimpArgs false
set_option linter.unusedVariables false
set_option maxHeartbeats 8000000

theorem typed_parL {cs : List Value} (h : Typed CT 50 cs) : ∃ p : ParT, cs = [.int .i64 p.k, .int .i64 p.s, .bool p.lead, frS eI6 p.ns] ∧ p.ns.length ≤ 9223372036854775807 := by
  obtain ⟨h1, h2⟩ := typed_struct h rfl
  match cs, h1, h2 with
  | [a0, a1, a2, a3], _, h2 =>
    obtain ⟨x0, rfl, _⟩ := typed_i64 (h2 (0, 2) (by simp)) rfl
    obtain ⟨x1, rfl, _⟩ := typed_i64 (h2 (1, 2) (by simp)) rfl
    obtain ⟨x2, rfl⟩ := typed_bool (h2 (2, 4) (by simp)) rfl
    obtain ⟨x3, rfl, f3, _⟩ := typed_i64s (h2 (3, 28) (by simp)) rfl rfl rfl
    exact ⟨⟨x0, x1, x2, x3⟩, rfl, f3⟩
theorem typed_par {a : Value} (h : TypedV CT 50 a) : ∃ p : ParT, a = parV p ∧ p.ns.length ≤ 9223372036854775807 := by
  obtain ⟨cs, rfl, h⟩ : ∃ cs : Array Value, a = .agg cs ∧ Typed CT 50 cs.toList := h
  obtain ⟨p, e, f⟩ := typed_parL h
  obtain ⟨cs⟩ := cs
  exact ⟨p, by rw [show cs = _ from e], f⟩
end Go.Ab
