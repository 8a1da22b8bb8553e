/- What the functions of the program answer, for all arguments that the theorems name as conditions. -/
import Derived.Test.YtnmjgjedkdmefaaS12Mj
import Derived.Test.YtnmjgjedkdmefaaS12Ma
set_option linter.unusedVariables false
set_option linter.unusedSimpArgs false
namespace Go.Ab
open Go.Proofs
set_option maxHeartbeats 8000000
theorem typed_wayW {a : Value} (h : TypedV CT 23 a) : ∃ w : WayT, a = wayV w := by
  obtain ⟨cs, rfl, h⟩ : ∃ cs : Array Value, a = .agg cs ∧ Typed CT 23 cs.toList := h
  obtain ⟨a, b, c, d, e, f, g, e1⟩ := typed_wayL h
  obtain ⟨cs⟩ := cs
  exact ⟨⟨a, b, c, d, e, f, g⟩, by rw [show cs = _ from e1]⟩
theorem typed_u8k {a : Value} (h : Typed CT 25 [a]) : ∃ l : List Int, a = frS eU8 l ∧ l.length ≤ 9223372036854775807 ∧ bOk l := by
  obtain ⟨l, e, f, g⟩ := typed_enc eU8 (p := fun n => 0 ≤ n ∧ n < 256) h (e := 5) rfl fun x h1 h2 => by
    have h2 : x.length = 1 := h2
    match x, h2 with
    | [a], _ =>
      obtain ⟨n, rfl, hn⟩ := typed_int h1 (q := .u8) rfl
      have := wfI_u8 hn
      exact ⟨n, rfl, by omega⟩
  exact ⟨l, e, f, g⟩
theorem typed_bslk {a : Value} (h : Typed CT 24 [a]) : ∃ l : List (List Int), a = frS eBS l ∧ l.length ≤ 9223372036854775807 ∧ (∀ x ∈ l, x.length ≤ 9223372036854775807) ∧ ∀ x ∈ l, bOk x := by
  obtain ⟨l, e, f, g⟩ := typed_enc eBS (p := fun x => x.length ≤ 9223372036854775807 ∧ bOk x) h (e := 25) rfl fun x h1 h2 => by
    have h2 : x.length = 1 := h2
    match x, h2 with
    | [a], _ =>
      obtain ⟨n, rfl, hn⟩ := typed_u8k h1
      exact ⟨n, rfl, hn⟩
  exact ⟨l, e, f, fun x hx => (g x hx).1, fun x hx => (g x hx).2⟩
theorem typed_lnk {a : Value} (h : TypedV CT 27 a) : ∃ l : LnT, a = lnV l ∧ l.fit ∧ (∀ x ∈ l.rows, bOk x) ∧ bOk l.cur := by
  obtain ⟨cs, rfl, h⟩ : ∃ cs : Array Value, a = .agg cs ∧ Typed CT 27 cs.toList := h
  obtain ⟨cs⟩ := cs
  obtain ⟨h1, h2⟩ := typed_struct h rfl
  match cs, h1, h2 with
  | [a0, a1, a2, a3], _, h2 =>
    obtain ⟨x0, rfl, f0, g0, k0⟩ := typed_bslk (h2 (0, 24) (by simp))
    obtain ⟨x1, rfl, f1, k1⟩ := typed_u8k (h2 (1, 25) (by simp))
    obtain ⟨x2, rfl⟩ := typed_bool (h2 (2, 4) (by simp)) rfl
    obtain ⟨x3, rfl, _⟩ := typed_i64 (h2 (3, 2) (by simp)) rfl
    exact ⟨⟨x0, x1, x2, x3⟩, rfl, ⟨f0, g0, f1⟩, k0, k1⟩
theorem typed_byte {a : Value} (h : TypedV CT 5 a) : ∃ n : Int, a = .int .u8 n ∧ 0 ≤ n ∧ n < 256 := by
  obtain ⟨n, rfl, hn⟩ := typed_int (C := CT) (t := 5) (q := .u8) h rfl
  have := wfI_u8 hn
  exact ⟨n, rfl, by omega⟩
def good : List Nat := [2, 4, 5, 25, 24, 23, 27]
theorem good_ok : goodB CT good = true := by kernel_rfl
end Go.Ab
namespace Go.Ab
open Go.Proofs
set_option maxHeartbeats 8000000
theorem all_FnExactFeedLine : ∀ xs, TypedAll CT [23, 27, 5] xs → Fz CT 3 xs (.bool true)
  | [a, b, c], h => by
    obtain ⟨w, rfl⟩ := typed_wayW h.1
    obtain ⟨l, rfl, hl, hb⟩ := typed_lnk h.2.1
    obtain ⟨n, rfl, n0, n1⟩ := typed_byte h.2.2.1
    exact fz_law ok_X_laws_FnExactFeedLine (s_FnExactFeedLine w l n hl hb n0 n1) (by simp)
  | [], h => h.elim
  | [_], h => h.2.elim
  | [_, _], h => h.2.2.elim
  | _ :: _ :: _ :: _ :: _, h => h.2.2.2.elim
end Go.Ab
