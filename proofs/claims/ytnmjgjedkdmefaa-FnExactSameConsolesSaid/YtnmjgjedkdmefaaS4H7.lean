/- What the functions of the program answer, for all arguments that the theorems name as conditions. -/
import Derived.Test.YtnmjgjedkdmefaaS4H3
import Derived.Test.YtnmjgjedkdmefaaS4H6a
namespace Go.Ab
open Go.Proofs
set_option linter.unusedSimpArgs false
set_option linter.unusedVariables false
set_option maxHeartbeats 4000000

/-! ## Consoles out of their types -/
theorem typed_wayL {cs : List Value} (h : Typed CT 23 cs) : ∃ w : WayT, cs = wayT w [] := by
  obtain ⟨h1, h2⟩ := typed_struct h rfl
  match cs, h1, h2 with
  | [a0, a1, a2, a3, a4, a5, a6], _, h2 =>
    obtain ⟨x0, rfl, _⟩ := typed_i64 (h2 (0, 2) (by simp)) rfl
    obtain ⟨x1, rfl, _⟩ := typed_i64 (h2 (1, 2) (by simp)) rfl
    obtain ⟨x2, rfl, _⟩ := typed_i64 (h2 (2, 2) (by simp)) rfl
    obtain ⟨x3, rfl, _⟩ := typed_i64 (h2 (3, 2) (by simp)) rfl
    obtain ⟨x4, rfl, _⟩ := typed_i64 (h2 (4, 2) (by simp)) rfl
    obtain ⟨x5, rfl, _⟩ := typed_i64 (h2 (5, 2) (by simp)) rfl
    obtain ⟨x6, rfl, _⟩ := typed_i64 (h2 (6, 2) (by simp)) rfl
    exact ⟨⟨x0, x1, x2, x3, x4, x5, x6⟩, rfl⟩
theorem typed_bytes {s i : Nat} {a : Value} (h : Typed CT s [a]) (hs : (CT.ty s).d = .slice i) (hi : (CT.ty i).d = .int .u8) (hz : (CT.ty i).size = 1) : ∃ l : List Int, a = frS eU8' l ∧ l.length ≤ 9223372036854775807 ∧ ∀ y ∈ l, wfI .u8 y :=
  typed_enc eU8' h hs fun x h1 h2 => by
    rw [hz] at h2
    match x, h2 with
    | [a], _ =>
      obtain ⟨n, rfl, hn⟩ := typed_int h1 hi
      exact ⟨n, rfl, hn⟩
theorem typed_bytess {s e i : Nat} {a : Value} (h : Typed CT s [a]) (hs : (CT.ty s).d = .slice e) (he : (CT.ty e).d = .slice i) (hi : (CT.ty i).d = .int .u8) (hz : (CT.ty e).size = 1) (hz' : (CT.ty i).size = 1) : ∃ l : List (List Int), a = frS eBS l ∧ l.length ≤ 9223372036854775807 ∧ ∀ y ∈ l, y.length ≤ 9223372036854775807 ∧ ∀ n ∈ y, wfI .u8 n :=
  typed_enc eBS h hs fun x h1 h2 => by
    rw [hz] at h2
    match x, h2 with
    | [a], _ =>
      obtain ⟨n, rfl, hn⟩ := typed_bytes h1 he hi hz'
      exact ⟨n, rfl, hn⟩
theorem typed_lnL {cs : List Value} (h : Typed CT 27 cs) : ∃ l : LnT, cs = lnT l [] ∧ l.fit ∧ (∀ x ∈ l.rows, ∀ n ∈ x, wfI .u8 n) ∧ ∀ n ∈ l.cur, wfI .u8 n := by
  obtain ⟨h1, h2⟩ := typed_struct h rfl
  match cs, h1, h2 with
  | [a0, a1, a2, a3], _, h2 =>
    obtain ⟨x0, rfl, f0, g0⟩ := typed_bytess (h2 (0, 24) (by simp)) rfl rfl rfl rfl rfl
    obtain ⟨x1, rfl, f1, g1⟩ := typed_bytes (h2 (1, 25) (by simp)) rfl rfl rfl
    obtain ⟨x2, rfl⟩ := typed_bool (h2 (2, 4) (by simp)) rfl
    obtain ⟨x3, rfl, _⟩ := typed_i64 (h2 (3, 2) (by simp)) rfl
    exact ⟨⟨x0, x1, x2, x3⟩, rfl, ⟨f0, fun x hx => (g0 x hx).1, f1⟩, fun x hx => (g0 x hx).2, g1⟩
theorem typed_con {a : Value} (h : TypedV CT 92 a) : ∃ c : ConT, a = conV c ∧ c.fit ∧ (∀ x ∈ c.l.rows, ∀ n ∈ x, wfI .u8 n) ∧ ∀ n ∈ c.l.cur, wfI .u8 n := by
  obtain ⟨cs, rfl, h⟩ : ∃ cs : Array Value, a = .agg cs ∧ Typed CT 92 cs.toList := h
  obtain ⟨h1, h2⟩ := typed_struct h rfl
  obtain ⟨v, e1, f1⟩ := typed_vtL (h2 (0, 68) (by simp))
  obtain ⟨w, e2⟩ := typed_wayL (h2 (27, 23) (by simp))
  obtain ⟨l, e3, f3, wf⟩ := typed_lnL (h2 (34, 27) (by simp))
  refine ⟨⟨v, w, l⟩, ?_, ⟨f1, f3⟩, wf⟩
  obtain ⟨cs⟩ := cs
  have h1 : cs.length = 38 := h1
  have e1 : (cs.drop 0).take 27 = _ := e1
  have e2 : (cs.drop 27).take 7 = _ := e2
  have e3 : (cs.drop 34).take 4 = _ := e3
  have : cs = (cs.drop 0).take 27 ++ ((cs.drop 27).take 7 ++ (cs.drop 34).take 4) := by
    have q1 : cs = cs.take 27 ++ cs.drop 27 := (List.take_append_drop 27 cs).symm
    have q2 : cs.drop 27 = (cs.drop 27).take 7 ++ (cs.drop 27).drop 7 := (List.take_append_drop 7 _).symm
    have q3 : (cs.drop 27).drop 7 = cs.drop 34 := by rw [List.drop_drop]
    have q4 : (cs.drop 34).take 4 = cs.drop 34 := List.take_of_length_le (by rw [List.length_drop]; omega)
    rw [q4, ← q3, ← q2, List.drop_zero, ← q1]
  rw [this, e1, e2, e3]
  rfl
end Go.Ab
