/- What the functions of the program answer, for all arguments that the theorems name as conditions. -/
import Derived.Test.YtkfbpdbopkdnjaaS3RTb
import Derived.Test.YtkfbpdbopkdnjaaS3RTw
import Derived.Test.YtkfbpdbopkdnjaaS3R5e
namespace Go.Ab
open Go.Proofs
set_option linter.unusedSimpArgs false
set_option linter.unusedVariables false
set_option maxHeartbeats 4000000

theorem typed_evs {a : Value} (h : Typed CT 82 [a]) : ∃ l : List EvT, a = frS eEv l ∧ l.length ≤ 9223372036854775807 ∧ ∀ x ∈ l, x.d.length ≤ 9223372036854775807 :=
  typed_enc eEv (p := fun x => x.d.length ≤ 9223372036854775807) h (e := 172) rfl fun x h1 h2 => by
    have h2 : x.length = 13 := h2
    match x, h2 with
    | [a0, a1, a2, a3, a4, a5, a6, a7, a8, a9, a10, a11, a12], _ =>
      obtain ⟨_, h3⟩ := typed_struct h1 rfl
      obtain ⟨x0, rfl, _⟩ := typed_i64 (h3 (0, 2) (by simp)) rfl
      obtain ⟨x1, rfl, _⟩ := typed_i64 (h3 (1, 2) (by simp)) rfl
      obtain ⟨x2, rfl, _⟩ := typed_i64 (h3 (2, 2) (by simp)) rfl
      obtain ⟨x3, rfl⟩ := typed_bool (h3 (3, 4) (by simp)) rfl
      obtain ⟨x4, rfl, f4⟩ := typed_u8s (h3 (4, 22) (by simp))
      obtain ⟨x5, rfl, _⟩ := typed_i64 (h3 (5, 2) (by simp)) rfl
      obtain ⟨b0, b1, b2, b3, b4, b5, b6, e⟩ := typed_wayL (h3 (6, 103) (by simp))
      have e : [a6, a7, a8, a9, a10, a11, a12] = [Value.int .i64 b0, .int .i64 b1, .int .i64 b2, .int .i64 b3, .int .i64 b4, .int .i64 b5, .int .i64 b6] := e
      cases e
      exact ⟨⟨x0, x1, x2, x3, x4, x5, b0, b1, b2, b3, b4, b5, b6⟩, rfl, f4⟩
end Go.Ab
