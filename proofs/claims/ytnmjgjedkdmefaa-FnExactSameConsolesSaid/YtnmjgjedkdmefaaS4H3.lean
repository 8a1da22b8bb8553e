/- What the functions of the program answer, for all arguments that the theorems name as conditions. -/
import Derived.Test.YtnmjgjedkdmefaaS4G6
import Derived.Test.YtnmjgjedkdmefaaS4H2a
namespace Go.Ab
open Go.Proofs
set_option linter.unusedSimpArgs false
set_option linter.unusedVariables false
set_option maxHeartbeats 4000000

/-! ## Terminals out of their types -/
theorem typed_decL {cs : List Value} (h : Typed CT 57 cs) : ∃ d : DecT, cs = [.int .i64 d.l, .int .i64 d.o, .int .i64 d.v] := by
  obtain ⟨h1, h2⟩ := typed_struct h rfl
  match cs, h1, h2 with
  | [a0, a1, a2], _, h2 =>
    obtain ⟨x0, rfl, _⟩ := typed_i64 (h2 (0, 2) (by simp)) rfl
    obtain ⟨x1, rfl, _⟩ := typed_i64 (h2 (1, 2) (by simp)) rfl
    obtain ⟨x2, rfl, _⟩ := typed_i64 (h2 (2, 2) (by simp)) rfl
    exact ⟨⟨x0, x1, x2⟩, rfl⟩
theorem typed_parL {cs : List Value} (h : Typed CT 60 cs) : ∃ p : ParT, cs = [.int .i64 p.k, .int .i64 p.s, .bool p.lead, frS eI6 p.ns] ∧ p.ns.length ≤ 9223372036854775807 := by
  obtain ⟨h1, h2⟩ := typed_struct h rfl
  match cs, h1, h2 with
  | [a0, a1, a2, a3], _, h2 =>
    obtain ⟨x0, rfl, _⟩ := typed_i64 (h2 (0, 2) (by simp)) rfl
    obtain ⟨x1, rfl, _⟩ := typed_i64 (h2 (1, 2) (by simp)) rfl
    obtain ⟨x2, rfl⟩ := typed_bool (h2 (2, 4) (by simp)) rfl
    obtain ⟨x3, rfl, f3, _⟩ := typed_i64s (h2 (3, 58) (by simp)) rfl rfl rfl
    exact ⟨⟨x0, x1, x2, x3⟩, rfl, f3⟩
theorem typed_vtL {cs : List Value} (h : Typed CT 68 cs) : ∃ v : VtT, cs = vtL v (frS eI6 v.p.ns) (frS eC v.s.g.cs) (frS eC v.s.g.bk) (frS eB v.s.tabs) (frS eI6 v.s.sets) ∧ v.fit := by
  obtain ⟨h1, h2⟩ := typed_struct h rfl
  obtain ⟨d, e1⟩ := typed_decL (h2 (0, 57) (by simp))
  obtain ⟨p, e2, f2⟩ := typed_parL (h2 (3, 60) (by simp))
  obtain ⟨s, e3, f3, _⟩ := typed_screenL (h2 (7, 66) (by simp))
  refine ⟨⟨d, p, s⟩, ?_, f2, f3⟩
  match cs, h1 with
  | [a0, a1, a2, a3, a4, a5, a6, a7, a8, a9, a10, a11, a12, a13, a14, a15, a16, a17, a18, a19, a20, a21, a22, a23, a24, a25, a26], _ =>
    have q1 : [a0, a1, a2] = _ := e1
    have q2 : [a3, a4, a5, a6] = _ := e2
    have q3 : [a7, a8, a9, a10, a11, a12, a13, a14, a15, a16, a17, a18, a19, a20, a21, a22, a23, a24, a25, a26] = _ := e3
    show [a0, a1, a2] ++ ([a3, a4, a5, a6] ++ [a7, a8, a9, a10, a11, a12, a13, a14, a15, a16, a17, a18, a19, a20, a21, a22, a23, a24, a25, a26]) = _
    rw [q1, q2, q3]
    rfl
theorem typed_vt {a : Value} (h : TypedV CT 68 a) : ∃ v : VtT, a = vtV v ∧ v.fit := by
  obtain ⟨cs, rfl, h⟩ : ∃ cs : Array Value, a = .agg cs ∧ Typed CT 68 cs.toList := h
  obtain ⟨v, e, h1⟩ := typed_vtL h
  obtain ⟨cs⟩ := cs
  exact ⟨v, by rw [show cs = _ from e], h1⟩
end Go.Ab
