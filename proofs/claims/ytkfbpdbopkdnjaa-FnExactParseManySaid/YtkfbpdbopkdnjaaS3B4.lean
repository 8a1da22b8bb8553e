/- What the functions of the program answer, for all arguments that the theorems name as conditions. -/
import Derived.Test.YtkfbpdbopkdnjaaS3B0
import Derived.Test.YtkfbpdbopkdnjaaFC
namespace Go.Ab
open Go.Proofs
set_option linter.unusedSimpArgs false
set_option linter.unusedVariables false
set_option maxHeartbeats 8000000

/-! ## Out of the types -/
theorem typed_i64 {i : Nat} {a : Value} (h : Typed CT i [a]) (hi : (CT.ty i).d = .int .i64) : ∃ n : Int, a = .int .i64 n ∧ wfI .i64 n := typed_int h hi
theorem typed_i64s {s i : Nat} {a : Value} (h : Typed CT s [a]) (hs : (CT.ty s).d = .slice i) (hi : (CT.ty i).d = .int .i64) (hz : (CT.ty i).size = 1) : ∃ l : List Int, a = frS eI6 l ∧ l.length ≤ 9223372036854775807 ∧ ∀ y ∈ l, wfI .i64 y :=
  typed_enc eI6 h hs fun x h1 h2 => by
    rw [hz] at h2
    match x, h2 with
    | [a], _ =>
      obtain ⟨n, rfl, hn⟩ := typed_i64 h1 hi
      exact ⟨n, rfl, hn⟩
end Go.Ab
