/- What the functions of the program answer, for all arguments that the theorems name as conditions. -/
import Derived.Test.YtkfbpdbopkdnjaaS3RLE
import Derived.Test.YtkfbpdbopkdnjaaS3RTe
namespace Go.Ab
open Go.Proofs
set_option linter.unusedSimpArgs false
set_option linter.unusedVariables false
set_option maxHeartbeats 40000000

/-! ## FnExactEventsFor -/
theorem upES_val (l : List EvT) : ∀ t : Int, upES t l = t + ((l.map fun e => (e.d.length : Int) + 12).sum) := by
  induction l with
  | nil => intro t; simp [upES]
  | cons x r ih => intro t; rw [upES, ih, upE, List.map_cons, List.sum_cons]; omega
theorem sum_filter (p : EvT → Bool) : ∀ l : List EvT, 0 ≤ ((l.filter p).map fun e => (e.d.length : Int) + 12).sum ∧ ((l.filter p).map fun e => (e.d.length : Int) + 12).sum ≤ (l.map fun e => (e.d.length : Int) + 12).sum
  | [] => by simp
  | x :: r => by
    have := sum_filter p r
    rw [List.filter_cons, List.map_cons, List.sum_cons]
    split
    · rw [List.map_cons, List.sum_cons]; omega
    · omega
theorem s_FnExactEventsFor (l : List EvT) (who : Int) (hl : l.length ≤ 9223372036854775807) (hb : ∀ x ∈ l, x.d.length ≤ 9223372036854775807) : X_laws_FnExactEventsFor [frS eEv l, .int .i64 who] [] = some (.bool true, []) := by
  have c0 := f_szEventS l 1048576 hl hb (by omega) (by omega)
  by_cases h0 : szES l 1048576 < 0
  · simp (maxSteps := 2000000) -implicitDefEqProofs [-fcall_eq, -rcall_eq, X_laws_FnExactEventsFor, retK_eq, c0, h0]
  obtain ⟨hle, hn, hb', hu⟩ := szES_small (l := l) (x := 1048576) (by omega) (by omega)
  have hup := upES_le 1 l
  have S0 := s_szEventS l 1048576 hl hb (by omega) (by omega)
  by_cases hk : l.length ≤ 40
  · have h1 := upES_val l 1
    have h2 := upES_val (l.filter (keepE who)) 1
    have h3 := sum_filter (keepE who) l
    exact law_ok l who (l.filter (keepE who)) (Nat.le_trans (List.length_filter_le _ _) hn) (fun x hx => hb' x (List.mem_filter.1 hx).1) (by omega) (by omega) S0 h0 hn hb' hup hu (s_spec_EventsFor l who hk hb') (s_impl_EventsFor l who hk hb')
  · exact law_bad l who S0 h0 hn hb' hup hu (s_spec_EventsFor_bad l who hk) (s_impl_EventsFor_bad l who hk)
def good : List Nat := [2, 4, 5, 22, 103, 172, 82]
theorem good_ok : goodB CT good = true := by kernel_rfl
theorem all_FnExactEventsFor : ∀ xs, TypedAll CT [82, 2] xs → Fz CT 9 xs (.bool true)
  | [a, b], h => by
    obtain ⟨l, rfl, hl, hb⟩ := typed_evs h.1
    obtain ⟨who, rfl, _⟩ := typed_i64 (i := 2) h.2.1 rfl
    exact fz_law ok_X_laws_FnExactEventsFor (s_FnExactEventsFor l who hl hb) (by simp)
  | [], h => h.elim
  | [_], h => h.2.elim
  | _ :: _ :: _ :: _, h => h.2.2.elim
end Go.Ab
