/- What the functions of the program answer, for all arguments that the theorems name as conditions. -/
import Derived.Test.YtkfbpdbopkdnjaaS3RRE
import Derived.Test.YtkfbpdbopkdnjaaS3B4
namespace Go.Ab
open Go.Proofs
set_option linter.unusedSimpArgs false
set_option linter.unusedVariables false
set_option maxHeartbeats 40000000

/-! ## FnExactReadBy -/
theorem s_FnExactReadBy (l : List EvT) (rd : List (List Int)) (who : Int) (hl : l.length ≤ 9223372036854775807) (hr : rd.length ≤ 9223372036854775807) (hb : ∀ x ∈ l, x.d.length ≤ 9223372036854775807) (hrb : ∀ x ∈ rd, x.length ≤ 9223372036854775807) : X_laws_FnExactReadBy [frS eEv l, frS eBS rd, .int .i64 who] [] = some (.bool true, []) := by
  have c0 := f_szEventS l 1048576 hl hb (by omega) (by omega)
  by_cases h0 : szES l 1048576 < 0
  · simp (maxSteps := 2000000) -implicitDefEqProofs [-fcall_eq, -rcall_eq, X_laws_FnExactReadBy, retK_eq, c0, h0]
  obtain ⟨hle, hn, hb', hu⟩ := szES_small (l := l) (x := 1048576) (by omega) (by omega)
  have c1 := f_szByteSS rd (szES l 1048576) hr hrb (by omega) hle
  by_cases h1 : szSS rd (szES l 1048576) < 0
  · simp (maxSteps := 2000000) -implicitDefEqProofs [-fcall_eq, -rcall_eq, X_laws_FnExactReadBy, retK_eq, c0, h0, c1, h1]
  obtain ⟨hle2, hn2, hb2, hu2⟩ := szSS_small (l := rd) (x := szES l 1048576) hle (by omega)
  have hup := upES_le 1 l
  have hup2 := sumL_up rd (upES 1 l)
  have S := s_spec_ReadBy l rd who (by omega) (by omega)
  have I := s_impl_ReadBy l rd who (by omega) (by omega)
  have S0 := s_szEventS l 1048576 hl hb (by omega) (by omega)
  have S1 := s_szByteSS rd (szES l 1048576) hr hrb (by omega) hle
  by_cases hk : rbK l rd = 0
  · have hO : (readL who l rd).length < 1000000000 := Nat.lt_of_le_of_lt (readL_len who l rd) (by omega)
    rw [if_pos hk] at S I
    exact law_ok l rd who _ hO S0 S1 h0 h1 hn hb' hup hu hn2 hb2 (by omega) (by omega) S I
  · rw [if_neg hk] at S I
    exact law_bad l rd who _ S0 S1 h0 h1 hn hb' hup hu hn2 hb2 (by omega) (by omega) S I
theorem typed_u8s {a : Value} (h : Typed CT 22 [a]) : ∃ l : List Int, a = frS eU8 l ∧ l.length ≤ 9223372036854775807 := by
  obtain ⟨l, e, f, _⟩ := typed_enc eU8 (p := fun _ => True) h (e := 5) rfl fun x h1 h2 => by
    have h2 : x.length = 1 := h2
    match x, h2 with
    | [a], _ =>
      obtain ⟨n, rfl, hn⟩ := typed_int h1 (q := .u8) rfl
      exact ⟨n, rfl, trivial⟩
  exact ⟨l, e, f⟩
theorem typed_bsl {a : Value} (h : Typed CT 83 [a]) : ∃ l : List (List Int), a = frS eBS l ∧ l.length ≤ 9223372036854775807 ∧ ∀ x ∈ l, x.length ≤ 9223372036854775807 :=
  typed_enc eBS (p := fun x => x.length ≤ 9223372036854775807) h (e := 22) rfl fun x h1 h2 => by
    have h2 : x.length = 1 := h2
    match x, h2 with
    | [a], _ =>
      obtain ⟨n, rfl, hn⟩ := typed_u8s h1
      exact ⟨n, rfl, hn⟩
theorem typed_wayL {cs : List Value} (h : Typed CT 103 cs) : ∃ a b c d e f g : Int, cs = [.int .i64 a, .int .i64 b, .int .i64 c, .int .i64 d, .int .i64 e, .int .i64 f, .int .i64 g] := by
  obtain ⟨h1, h2⟩ := typed_struct h rfl
  have h1 : cs.length = 7 := h1
  match cs, h1 with
  | [a0, a1, a2, a3, a4, a5, a6], _ =>
    obtain ⟨x0, rfl, _⟩ := typed_i64 (h2 (0, 2) (by simp)) rfl
    obtain ⟨x1, rfl, _⟩ := typed_i64 (h2 (1, 2) (by simp)) rfl
    obtain ⟨x2, rfl, _⟩ := typed_i64 (h2 (2, 2) (by simp)) rfl
    obtain ⟨x3, rfl, _⟩ := typed_i64 (h2 (3, 2) (by simp)) rfl
    obtain ⟨x4, rfl, _⟩ := typed_i64 (h2 (4, 2) (by simp)) rfl
    obtain ⟨x5, rfl, _⟩ := typed_i64 (h2 (5, 2) (by simp)) rfl
    obtain ⟨x6, rfl, _⟩ := typed_i64 (h2 (6, 2) (by simp)) rfl
    exact ⟨x0, x1, x2, x3, x4, x5, x6, rfl⟩
theorem typed_evs {a : Value} (h : Typed CT 82 [a]) : ∃ l : List EvT, a = frS eEv l ∧ l.length ≤ 9223372036854775807 ∧ ∀ x ∈ l, x.d.length ≤ 9223372036854775807 :=
  typed_enc eEv (p := fun x => x.d.length ≤ 9223372036854775807) h (e := 172) rfl fun x h1 h2 => by
    have h2 : x.length = 13 := h2
    match x, h2 with
    | [a0, a1, a2, a3, a4, a5, a6, a7, a8, a9, a10, a11, a12], _ =>
      obtain ⟨_, h3⟩ := typed_struct h1 rfl
      obtain ⟨x0, rfl, _⟩ := typed_i64 (h3 (0, 2) (by simp)) rfl
      obtain ⟨x1, rfl, _⟩ := typed_i64 (h3 (1, 2) (by simp)) rfl
      obtain ⟨x2, rfl, _⟩ := typed_i64 (h3 (2, 2) (by simp)) rfl
      obtain ⟨x3, rfl⟩ := typed_bool (h3 (3, 4) (by simp)) rfl
      obtain ⟨x4, rfl, f4⟩ := typed_u8s (h3 (4, 22) (by simp))
      obtain ⟨x5, rfl, _⟩ := typed_i64 (h3 (5, 2) (by simp)) rfl
      obtain ⟨b0, b1, b2, b3, b4, b5, b6, e⟩ := typed_wayL (h3 (6, 103) (by simp))
      have e : [a6, a7, a8, a9, a10, a11, a12] = [Value.int .i64 b0, .int .i64 b1, .int .i64 b2, .int .i64 b3, .int .i64 b4, .int .i64 b5, .int .i64 b6] := e
      cases e
      exact ⟨⟨x0, x1, x2, x3, x4, x5, b0, b1, b2, b3, b4, b5, b6⟩, rfl, f4⟩
def good : List Nat := [2, 4, 5, 22, 83, 103, 172, 82]
theorem good_ok : goodB CT good = true := by kernel_rfl
theorem all_FnExactReadBy : ∀ xs, TypedAll CT [82, 83, 2] xs → Fz CT 8 xs (.bool true)
  | [a, b, c], h => by
    obtain ⟨l, rfl, hl, hb⟩ := typed_evs h.1
    obtain ⟨rd, rfl, hr, hrb⟩ := typed_bsl h.2.1
    obtain ⟨who, rfl, _⟩ := typed_i64 (i := 2) h.2.2.1 rfl
    exact fz_law ok_X_laws_FnExactReadBy (s_FnExactReadBy l rd who hl hr hb hrb) (by simp)
  | [], h => h.elim
  | [_], h => h.2.elim
  | [_, _], h => h.2.2.elim
  | _ :: _ :: _ :: _ :: _, h => h.2.2.2.elim
end Go.Ab
