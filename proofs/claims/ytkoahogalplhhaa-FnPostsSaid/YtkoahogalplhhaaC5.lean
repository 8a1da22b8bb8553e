/- The laws' arguments, out of their types. -/
import Derived.Test.YtkoahogalplhhaaC4
import Derived.Test.YtkoahogalplhhaaAbD
set_option linter.unusedVariables false
set_option linter.unusedSimpArgs false
namespace Go.Ab
open Go.Proofs
set_option maxRecDepth 100000
set_option linter.unusedVariables false
/-- The types whose values the laws take. -/
def good : List Nat := [2, 3, 4, 5, 22, 30, 32, 41, 52, 62, 63]
theorem good_ok : goodB CT good = true := by kernel_rfl

def LineT.byt (l : LineT) : Prop := (∀ x ∈ l.r, ∀ n ∈ x, wfI .u8 n) ∧ ∀ n ∈ l.e, wfI .u8 n
theorem typed_line {a : Value} (h : TypedV CT 32 a) : ∃ l, a = lineV l ∧ l.wf ∧ l.byt := by
  obtain ⟨cs, rfl, h⟩ : ∃ cs : Array Value, a = .agg cs ∧ Typed CT 32 cs.toList := h
  obtain ⟨h1, h2⟩ := typed_struct h rfl
  obtain ⟨cs⟩ := cs
  match cs, h1, h2 with
  | [a, b, c, d], _, h2 =>
    obtain ⟨r, rfl, r1, r2⟩ := typed_bss (h2 (0, 30) (by simp)) rfl rfl rfl rfl rfl
    obtain ⟨e, rfl, e1, e2⟩ := typed_ints (h2 (1, 22) (by simp)) rfl rfl rfl
    obtain ⟨t, rfl⟩ := typed_bool (h2 (2, 4) (by simp)) rfl
    obtain ⟨n, rfl, n1⟩ := typed_int (h2 (3, 2) (by simp)) rfl
    exact ⟨⟨r, e, t, n⟩, rfl, ⟨r1, fun x hx => (r2 x hx).1, e1⟩, fun x hx => (r2 x hx).2, e2⟩

theorem all_FnExactLineFault : ∀ xs, TypedAll CT [32] xs → Fz CT 5 xs (.bool true)
  | [a], h => by
    obtain ⟨l, rfl, hl, _⟩ := typed_line h.1
    exact law5 l hl
  | [], h => h.elim
  | _ :: _ :: _, h => h.2.elim
end Go.Ab
