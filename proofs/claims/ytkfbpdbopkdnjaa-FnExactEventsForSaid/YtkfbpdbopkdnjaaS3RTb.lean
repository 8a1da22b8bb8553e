/- What the functions of the program answer, for all arguments that the theorems name as conditions. -/
import Derived.Test.YtkfbpdbopkdnjaaS3R0
import Derived.Test.YtkfbpdbopkdnjaaS3B4
namespace Go.Ab
open Go.Proofs
set_option linter.unusedSimpArgs false
set_option linter.unusedVariables false
set_option maxHeartbeats 4000000

theorem typed_u8s {a : Value} (h : Typed CT 22 [a]) : ∃ l : List Int, a = frS eU8 l ∧ l.length ≤ 9223372036854775807 := by
  obtain ⟨l, e, f, _⟩ := typed_enc eU8 (p := fun _ => True) h (e := 5) rfl fun x h1 h2 => by
    have h2 : x.length = 1 := h2
    match x, h2 with
    | [a], _ =>
      obtain ⟨n, rfl, hn⟩ := typed_int h1 (q := .u8) rfl
      exact ⟨n, rfl, trivial⟩
  exact ⟨l, e, f⟩
end Go.Ab
