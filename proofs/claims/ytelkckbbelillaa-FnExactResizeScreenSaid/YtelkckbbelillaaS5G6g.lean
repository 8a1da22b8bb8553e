/- What the functions of the program answer, for all arguments that the theorems name as conditions. -/
import Derived.Test.YtelkckbbelillaaS5G2a
import Derived.Test.YtelkckbbelillaaFC
namespace Go.Ab
open Go.Proofs
set_option linter.unusedSimpArgs false
set_option linter.unusedVariables false
set_option maxHeartbeats 4000000

/-! ## The laws' arguments, out of their types -/
theorem typed_i64 {i : Nat} {a : Value} (h : Typed CT i [a]) (hi : (CT.ty i).d = .int .i64) : ∃ n : Int, a = .int .i64 n ∧ wfI .i64 n := typed_int h hi
theorem typed_cell {c i : Nat} {x : List Value} (h : Typed CT c x) (hl : x.length = (CT.ty c).size) (hc : (CT.ty c).d = .struct [(0, i), (1, i)]) (hi : (CT.ty i).d = .int .i64) (hs : (CT.ty c).size = 2) (hz : (CT.ty i).size = 1) : ∃ y : CellT, x = eC.f y ∧ wfI .i64 y.c ∧ wfI .i64 y.a := by
  obtain ⟨h1, h2⟩ := typed_struct h hc
  rw [hs] at hl
  match x, hl, h2 with
  | [a, b], _, h2 =>
    have q1 := h2 (0, i) (by simp)
    have q2 := h2 (1, i) (by simp)
    rw [hz] at q1 q2
    obtain ⟨n, rfl, n1⟩ := typed_i64 q1 hi
    obtain ⟨m, rfl, m1⟩ := typed_i64 q2 hi
    exact ⟨⟨n, m⟩, rfl, n1, m1⟩
theorem typed_cells {s c i : Nat} {a : Value} (h : Typed CT s [a]) (hs : (CT.ty s).d = .slice c) (hc : (CT.ty c).d = .struct [(0, i), (1, i)]) (hi : (CT.ty i).d = .int .i64) (hz : (CT.ty c).size = 2) (hz' : (CT.ty i).size = 1) : ∃ l : List CellT, a = frS eC l ∧ l.length ≤ 9223372036854775807 ∧ ∀ y ∈ l, wfI .i64 y.c ∧ wfI .i64 y.a :=
  typed_enc eC h hs fun x h1 h2 => typed_cell h1 h2 hc hi hz hz'
def GridT.wf (g : GridT) : Prop := wfI .i64 g.r ∧ wfI .i64 g.w ∧ (∀ y ∈ g.cs, wfI .i64 y.c ∧ wfI .i64 y.a) ∧ (∀ y ∈ g.bk, wfI .i64 y.c ∧ wfI .i64 y.a)
theorem typed_gridL {a b c d : Value} (h : Typed CT 45 [a, b, c, d]) : ∃ g : GridT, a = .int .i64 g.r ∧ b = .int .i64 g.w ∧ c = frS eC g.cs ∧ d = frS eC g.bk ∧ g.fit ∧ g.wf := by
  obtain ⟨h1, h2⟩ := typed_struct h rfl
  obtain ⟨r, rfl, r1⟩ := typed_i64 (h2 (0, 2) (by simp)) rfl
  obtain ⟨w, rfl, w1⟩ := typed_i64 (h2 (1, 2) (by simp)) rfl
  obtain ⟨l, rfl, l1, l2⟩ := typed_cells (h2 (2, 43) (by simp)) rfl rfl rfl rfl rfl
  obtain ⟨k, rfl, k1, k2⟩ := typed_cells (h2 (3, 43) (by simp)) rfl rfl rfl rfl rfl
  exact ⟨⟨r, w, l, k⟩, rfl, rfl, rfl, rfl, ⟨l1, k1⟩, r1, w1, l2, k2⟩
theorem typed_grid {a : Value} (h : TypedV CT 45 a) : ∃ g : GridT, a = gridV g ∧ g.fit ∧ g.wf := by
  obtain ⟨cs, rfl, h⟩ : ∃ cs : Array Value, a = .agg cs ∧ Typed CT 45 cs.toList := h
  have h1 : cs.toList.length = 4 := (typed_struct h rfl).1
  obtain ⟨cs⟩ := cs
  match cs, h1, h with
  | [a, b, c, d], _, h =>
    obtain ⟨g, rfl, rfl, rfl, rfl, f, w⟩ := typed_gridL h
    exact ⟨g, rfl, f, w⟩
end Go.Ab
