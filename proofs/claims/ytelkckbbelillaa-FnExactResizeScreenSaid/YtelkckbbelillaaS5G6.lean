/- What the functions of the program answer, for all arguments that the theorems name as conditions. -/
import Derived.Test.YtelkckbbelillaaS5G5
import Derived.Test.YtelkckbbelillaaS5G6g
namespace Go.Ab
open Go.Proofs
set_option linter.unusedSimpArgs false
set_option linter.unusedVariables false
set_option maxHeartbeats 4000000

theorem typed_i64s {s i : Nat} {a : Value} (h : Typed CT s [a]) (hs : (CT.ty s).d = .slice i) (hi : (CT.ty i).d = .int .i64) (hz : (CT.ty i).size = 1) : ∃ l : List Int, a = frS eI6 l ∧ l.length ≤ 9223372036854775807 ∧ ∀ y ∈ l, wfI .i64 y :=
  typed_enc eI6 h hs fun x h1 h2 => by
    rw [hz] at h2
    match x, h2 with
    | [a], _ =>
      obtain ⟨n, rfl, hn⟩ := typed_i64 h1 hi
      exact ⟨n, rfl, hn⟩
theorem typed_bools {s i : Nat} {a : Value} (h : Typed CT s [a]) (hs : (CT.ty s).d = .slice i) (hi : (CT.ty i).d = .bool) (hz : (CT.ty i).size = 1) : ∃ l : List Bool, a = frS eB l ∧ l.length ≤ 9223372036854775807 ∧ ∀ y ∈ l, True :=
  typed_enc eB h hs fun x h1 h2 => by
    rw [hz] at h2
    match x, h2 with
    | [a], _ =>
      obtain ⟨n, rfl⟩ := typed_bool h1 hi
      exact ⟨n, rfl, trivial⟩
theorem typed_screenL {cs : List Value} (h : Typed CT 47 cs) : ∃ s : ScrT, cs = scrL s (frS eC s.g.cs) (frS eC s.g.bk) (frS eB s.tabs) (frS eI6 s.sets) ∧ s.fit ∧ s.g.wf := by
  obtain ⟨h1, h2⟩ := typed_struct h rfl
  match cs, h1, h2 with
  | [a0, a1, a2, a3, a4, a5, a6, a7, a8, a9, a10, a11, a12, a13, a14, a15, a16, a17, a18, a19], _, h2 =>
    obtain ⟨g, rfl, rfl, rfl, rfl, gf, gw⟩ := typed_gridL (h2 (0, 45) (by simp))
    obtain ⟨x4, rfl, _⟩ := typed_i64 (h2 (4, 2) (by simp)) rfl
    obtain ⟨x5, rfl, _⟩ := typed_i64 (h2 (5, 2) (by simp)) rfl
    obtain ⟨x6, rfl⟩ := typed_bool (h2 (6, 4) (by simp)) rfl
    obtain ⟨x7, rfl, _⟩ := typed_i64 (h2 (7, 2) (by simp)) rfl
    obtain ⟨x8, rfl, _⟩ := typed_i64 (h2 (8, 2) (by simp)) rfl
    obtain ⟨x9, rfl, _⟩ := typed_i64 (h2 (9, 2) (by simp)) rfl
    obtain ⟨x10, rfl⟩ := typed_bool (h2 (10, 4) (by simp)) rfl
    obtain ⟨x11, rfl⟩ := typed_bool (h2 (11, 4) (by simp)) rfl
    obtain ⟨x12, rfl⟩ := typed_bool (h2 (12, 4) (by simp)) rfl
    obtain ⟨x13, rfl, f13, _⟩ := typed_bools (h2 (13, 24) (by simp)) rfl rfl rfl
    obtain ⟨x14, rfl, _⟩ := typed_i64 (h2 (14, 2) (by simp)) rfl
    obtain ⟨x15, rfl, _⟩ := typed_i64 (h2 (15, 2) (by simp)) rfl
    obtain ⟨x16, rfl, _⟩ := typed_i64 (h2 (16, 2) (by simp)) rfl
    obtain ⟨x17, rfl, f17, _⟩ := typed_i64s (h2 (17, 40) (by simp)) rfl rfl rfl
    obtain ⟨x18, rfl, _⟩ := typed_i64 (h2 (18, 2) (by simp)) rfl
    obtain ⟨x19, rfl, _⟩ := typed_i64 (h2 (19, 2) (by simp)) rfl
    exact ⟨⟨g, x4, x5, x6, x7, x8, x9, x10, x11, x12, x13, x14, x15, x16, x17, x18, x19⟩, rfl, ⟨gf, f13, f17⟩, gw⟩
theorem typed_screen {a : Value} (h : TypedV CT 47 a) : ∃ s : ScrT, a = scrV s ∧ s.fit ∧ s.g.wf := by
  obtain ⟨cs, rfl, h⟩ : ∃ cs : Array Value, a = .agg cs ∧ Typed CT 47 cs.toList := h
  obtain ⟨s, e, h1, h2⟩ := typed_screenL h
  obtain ⟨cs⟩ := cs
  exact ⟨s, by rw [show cs = _ from e], h1, h2⟩
/-- The types whose values the laws take. -/
def good : List Nat := [2, 4, 24, 40, 43, 45, 47, 186]
theorem good_ok : goodB CT good = true := by kernel_rfl
end Go.Ab
