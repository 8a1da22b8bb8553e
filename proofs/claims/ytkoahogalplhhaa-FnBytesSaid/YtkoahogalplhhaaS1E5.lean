/- What the functions of the program answer, for all arguments that the theorems name as conditions. -/
import Derived.Test.YtkoahogalplhhaaS1E1
import Derived.Test.YtkoahogalplhhaaFC
namespace Go.Ab
set_option linter.unusedSimpArgs false
set_option linter.unusedVariables false
set_option maxHeartbeats 4000000

/-! ## The bytes of a law -/
theorem wf_u8 {n : Int} (h : wfI .u8 n) : 0 ≤ n ∧ n < 256 := by
  have := wfI_u8 h
  omega
theorem typed_code {s e : Nat} {a : Value} (h : Typed CT s [a]) (hs : (CT.ty s).d = .slice e) (he : (CT.ty e).d = .int .u8) (hz : (CT.ty e).size = 1) : ∃ l : List Int, a = frS eU8 l ∧ l.length ≤ maxLen ∧ ∀ n ∈ l, 0 ≤ n ∧ n < 256 := by
  obtain ⟨l, h1, h2, h3⟩ := typed_ints h hs he hz
  exact ⟨l, by rw [h1, frS_ints], h2, fun n hn => wf_u8 (h3 n hn)⟩
end Go.Ab
