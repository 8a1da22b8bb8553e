/- Part of an own evaluator of Go code on numbered blocks, and of the proof that the machine does what it says; each theorem carries its own conditions. -/
import Derived.Test.YtkoahogalplhhaaAb31
set_option linter.unusedVariables false
set_option linter.unusedSimpArgs false
namespace Go.Ab

theorem holds_none : Holds none := trivial
theorem andP_intro {p q : Option Prop} (h : Holds p) (g : Holds q) : Holds (andP p q) := by
  cases p <;> cases q
  · exact trivial
  · exact g
  · exact h
  · exact ⟨h, g⟩
theorem condP_intro {b : Bool} {p q : Option Prop} (h : b = true → Holds p) (g : b = false → Holds q) : Holds (condP b p q) := by
  cases p <;> cases q
  · exact trivial
  · exact g
  · exact h
  · exact ⟨h, g⟩
theorem psP_intro {ps : List Prop} (h : AllP ps) : Holds (psP ps) := by
  cases ps
  · exact trivial
  · exact h
theorem all_nil : AllP [] := trivial
theorem all_one {p : Prop} (h : p) : AllP [p] := h
theorem all_cons {p : Prop} {ps : List Prop} (h : p) (g : AllP ps) : AllP (p :: ps) := by
  cases ps
  · exact h
  · exact ⟨h, g⟩
theorem all_append {ps qs : List Prop} (h : AllP ps) (g : AllP qs) : AllP (ps ++ qs) := by
  induction ps with
  | nil => exact g
  | cons p ps ih => exact all_cons h.cons.1 (ih h.cons.2)
theorem all_under {c : Bool} {ps : List Prop} (h : c = true → AllP ps) : AllP (under c ps) := by
  cases ps
  · exact trivial
  · exact h
end Go.Ab
