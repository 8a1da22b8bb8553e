/- What the functions of the program answer, for all arguments that the theorems name as conditions. -/
import Derived.Test.YtnmjgjedkdmefaaS4G5
import Derived.Test.YtnmjgjedkdmefaaFC
namespace Go.Ab
open Go.Proofs
set_option linter.unusedSimpArgs false
set_option linter.unusedVariables false
set_option maxHeartbeats 4000000

/-! ## The laws' arguments, out of their types -/
theorem typed_i64 {i : Nat} {a : Value} (h : Typed CT i [a]) (hi : (CT.ty i).d = .int .i64) : ∃ n : Int, a = .int .i64 n ∧ wfI .i64 n := typed_int h hi
theorem typed_cell {c i : Nat} {x : List Value} (h : Typed CT c x) (hl : x.length = (CT.ty c).size) (hc : (CT.ty c).d = .struct [(0, i), (1, i)]) (hi : (CT.ty i).d = .int .i64) (hs : (CT.ty c).size = 2) (hz : (CT.ty i).size = 1) : ∃ y : CellT, x = eC.f y ∧ wfI .i64 y.c ∧ wfI .i64 y.a := by
  obtain ⟨h1, h2⟩ := typed_struct h hc
  rw [hs] at hl
  match x, hl, h2 with
  | [a, b], _, h2 =>
    have q1 := h2 (0, i) (by simp)
    have q2 := h2 (1, i) (by simp)
    rw [hz] at q1 q2
    obtain ⟨n, rfl, n1⟩ := typed_i64 q1 hi
    obtain ⟨m, rfl, m1⟩ := typed_i64 q2 hi
    exact ⟨⟨n, m⟩, rfl, n1, m1⟩
theorem typed_cells {s c i : Nat} {a : Value} (h : Typed CT s [a]) (hs : (CT.ty s).d = .slice c) (hc : (CT.ty c).d = .struct [(0, i), (1, i)]) (hi : (CT.ty i).d = .int .i64) (hz : (CT.ty c).size = 2) (hz' : (CT.ty i).size = 1) : ∃ l : List CellT, a = frS eC l ∧ l.length ≤ 9223372036854775807 ∧ ∀ y ∈ l, wfI .i64 y.c ∧ wfI .i64 y.a :=
  typed_enc eC h hs fun x h1 h2 => typed_cell h1 h2 hc hi hz hz'
theorem typed_i64s {s i : Nat} {a : Value} (h : Typed CT s [a]) (hs : (CT.ty s).d = .slice i) (hi : (CT.ty i).d = .int .i64) (hz : (CT.ty i).size = 1) : ∃ l : List Int, a = frS eI6 l ∧ l.length ≤ 9223372036854775807 ∧ ∀ y ∈ l, wfI .i64 y :=
  typed_enc eI6 h hs fun x h1 h2 => by
    rw [hz] at h2
    match x, h2 with
    | [a], _ =>
      obtain ⟨n, rfl, hn⟩ := typed_i64 h1 hi
      exact ⟨n, rfl, hn⟩
theorem typed_bools {s i : Nat} {a : Value} (h : Typed CT s [a]) (hs : (CT.ty s).d = .slice i) (hi : (CT.ty i).d = .bool) (hz : (CT.ty i).size = 1) : ∃ l : List Bool, a = frS eB l ∧ l.length ≤ 9223372036854775807 ∧ ∀ y ∈ l, True :=
  typed_enc eB h hs fun x h1 h2 => by
    rw [hz] at h2
    match x, h2 with
    | [a], _ =>
      obtain ⟨n, rfl⟩ := typed_bool h1 hi
      exact ⟨n, rfl, trivial⟩
def GridT.wf (g : GridT) : Prop := wfI .i64 g.r ∧ wfI .i64 g.w ∧ (∀ y ∈ g.cs, wfI .i64 y.c ∧ wfI .i64 y.a) ∧ (∀ y ∈ g.bk, wfI .i64 y.c ∧ wfI .i64 y.a)
theorem typed_gridL {a b c d : Value} (h : Typed CT 63 [a, b, c, d]) : ∃ g : GridT, a = .int .i64 g.r ∧ b = .int .i64 g.w ∧ c = frS eC g.cs ∧ d = frS eC g.bk ∧ g.fit ∧ g.wf := by
  obtain ⟨h1, h2⟩ := typed_struct h rfl
  obtain ⟨r, rfl, r1⟩ := typed_i64 (h2 (0, 2) (by simp)) rfl
  obtain ⟨w, rfl, w1⟩ := typed_i64 (h2 (1, 2) (by simp)) rfl
  obtain ⟨l, rfl, l1, l2⟩ := typed_cells (h2 (2, 61) (by simp)) rfl rfl rfl rfl rfl
  obtain ⟨k, rfl, k1, k2⟩ := typed_cells (h2 (3, 61) (by simp)) rfl rfl rfl rfl rfl
  exact ⟨⟨r, w, l, k⟩, rfl, rfl, rfl, rfl, ⟨l1, k1⟩, r1, w1, l2, k2⟩
theorem typed_screenL {cs : List Value} (h : Typed CT 66 cs) : ∃ s : ScrT, cs = scrL s (frS eC s.g.cs) (frS eC s.g.bk) (frS eB s.tabs) (frS eI6 s.sets) ∧ s.fit ∧ s.g.wf := by
  obtain ⟨h1, h2⟩ := typed_struct h rfl
  match cs, h1, h2 with
  | [a0, a1, a2, a3, a4, a5, a6, a7, a8, a9, a10, a11, a12, a13, a14, a15, a16, a17, a18, a19], _, h2 =>
    obtain ⟨g, rfl, rfl, rfl, rfl, gf, gw⟩ := typed_gridL (h2 (0, 63) (by simp))
    obtain ⟨x4, rfl, _⟩ := typed_i64 (h2 (4, 2) (by simp)) rfl
    obtain ⟨x5, rfl, _⟩ := typed_i64 (h2 (5, 2) (by simp)) rfl
    obtain ⟨x6, rfl⟩ := typed_bool (h2 (6, 4) (by simp)) rfl
    obtain ⟨x7, rfl, _⟩ := typed_i64 (h2 (7, 2) (by simp)) rfl
    obtain ⟨x8, rfl, _⟩ := typed_i64 (h2 (8, 2) (by simp)) rfl
    obtain ⟨x9, rfl, _⟩ := typed_i64 (h2 (9, 2) (by simp)) rfl
    obtain ⟨x10, rfl⟩ := typed_bool (h2 (10, 4) (by simp)) rfl
    obtain ⟨x11, rfl⟩ := typed_bool (h2 (11, 4) (by simp)) rfl
    obtain ⟨x12, rfl⟩ := typed_bool (h2 (12, 4) (by simp)) rfl
    obtain ⟨x13, rfl, f13, _⟩ := typed_bools (h2 (13, 64) (by simp)) rfl rfl rfl
    obtain ⟨x14, rfl, _⟩ := typed_i64 (h2 (14, 2) (by simp)) rfl
    obtain ⟨x15, rfl, _⟩ := typed_i64 (h2 (15, 2) (by simp)) rfl
    obtain ⟨x16, rfl, _⟩ := typed_i64 (h2 (16, 2) (by simp)) rfl
    obtain ⟨x17, rfl, f17, _⟩ := typed_i64s (h2 (17, 58) (by simp)) rfl rfl rfl
    obtain ⟨x18, rfl, _⟩ := typed_i64 (h2 (18, 2) (by simp)) rfl
    obtain ⟨x19, rfl, _⟩ := typed_i64 (h2 (19, 2) (by simp)) rfl
    exact ⟨⟨g, x4, x5, x6, x7, x8, x9, x10, x11, x12, x13, x14, x15, x16, x17, x18, x19⟩, rfl, ⟨gf, f13, f17⟩, gw⟩
theorem typed_screen {a : Value} (h : TypedV CT 66 a) : ∃ s : ScrT, a = scrV s ∧ s.fit ∧ s.g.wf := by
  obtain ⟨cs, rfl, h⟩ : ∃ cs : Array Value, a = .agg cs ∧ Typed CT 66 cs.toList := h
  obtain ⟨s, e, h1, h2⟩ := typed_screenL h
  obtain ⟨cs⟩ := cs
  exact ⟨s, by rw [show cs = _ from e], h1, h2⟩
/-- The types whose values the laws take. -/
def good : List Nat := [2, 4, 5, 23, 24, 25, 27, 57, 58, 60, 61, 63, 64, 66, 68, 92, 209]
theorem good_ok : goodB CT good = true := by kernel_rfl
end Go.Ab
