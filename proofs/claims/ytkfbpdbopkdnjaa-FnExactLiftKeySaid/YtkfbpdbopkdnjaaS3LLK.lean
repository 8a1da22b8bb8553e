/- What the functions of the program answer, for all arguments that the theorems name as conditions. -/
import Derived.Test.YtkfbpdbopkdnjaaS3L8
namespace Go.Ab
open Go.Proofs
set_option linter.unusedSimpArgs false
set_option linter.unusedVariables false
set_option maxHeartbeats 40000000

/-! ## FnExactLiftKey -/
theorem typed_kb {a : Value} (h : TypedV CT 68 a) : ∃ p : KbT, a = kbV p ∧ p.hs.length ≤ 9223372036854775807 := by
  obtain ⟨cs, rfl, h⟩ : ∃ cs : Array Value, a = .agg cs ∧ Typed CT 68 cs.toList := h
  obtain ⟨h1, h2⟩ := typed_struct h rfl
  obtain ⟨cs⟩ := cs
  match cs, h1, h2 with
  | [a0, a1, a2], _, h2 =>
    obtain ⟨x0, rfl, f0⟩ := typed_holds (h2 (0, 66) (by simp)) rfl rfl rfl
    obtain ⟨x1, rfl⟩ := typed_bool (h2 (1, 4) (by simp)) rfl
    obtain ⟨x2, rfl, _⟩ := typed_i64 (h2 (2, 2) (by simp)) rfl
    exact ⟨⟨x0, x1, x2⟩, rfl, f0⟩
theorem lessH_len (k : Int) (l : List HdT) : (lessH k l).length ≤ l.length := List.length_filter_le _ _
theorem kbF_len {p : KbT} (h : kbF p = 0) : p.hs.length ≤ 4 := by
  unfold kbF at h
  split at h
  · cases h
  · omega
theorem s_FnExactLiftKey (p : KbT) (k : Int) (hp : p.hs.length ≤ 9223372036854775807) : X_laws_FnExactLiftKey [kbV p, .int .i64 k] [] = some (.bool true, []) := by
  have c0 := s_szKeyboard p 1048576 hp (by omega) (by omega)
  by_cases h0 : szK p 1048576 < 0
  · simp (maxSteps := 2000000) +contextual -implicitDefEqProofs [X_laws_FnExactLiftKey, retK_eq, c0, h0]
  · have hl : p.hs.length < 1000000000 := szN_small (x := 1048576) (by omega) (by unfold szK at h0; omega)
    have c1 := s_toKeyboard p hl
    have c3 := s_eqKeyboard p hl
    have c4 := s_markKeyboardO p hl
    have u := upH_pos p.hs.length (t := 1) (by omega)
    have z0 : ∀ k m b, fzO k m b 0 0 = some (roS 0 []) := fun k m b => rfl
    by_cases hok : kbF p = 0 ∧ inB k 1 40 = true
    · obtain ⟨h1, h2⟩ := hok
      have d1 := s_spec_LiftKey p k hl h1 h2
      have hp4 := kbF_len h1
      by_cases hn : p.hs = []
      · have d2 := s_impl_LiftKey0 p k hn h1 h2
        have e : lessH k p.hs = [] := by rw [hn]; rfl
        rw [e] at d1
        have d3 := s_eqKeyResult 0 ⟨[], p.cap, p.acc⟩ (by simp)
        have d4 := mark_KE 0 p (roS 0 []) (.inr rfl)
        have d5 := s_heldKeyResult 0 p 0 (by omega)
        simp [markH, upH, frS_nil] at d1 d3 d5
        simp only [krV, frS_nil] at d3
        simp (maxSteps := 4000000) -implicitDefEqProofs [X_laws_FnExactLiftKey, retK_eq, c0, h0, c1, c3, c4, u, d1, d2, d3, d4, d5, z0]
      · obtain ⟨z, hz, d2⟩ := s_impl_LiftKeyN p k hl hn h1 h2
        generalize lessH k p.hs = l at *
        have d3 := s_eqKeyResult 0 ⟨l, p.cap, p.acc⟩ (by simp; omega)
        have d4 := mark_KS 0 p l z (by omega)
        have d5 := s_heldKeyResult 0 p l.length (by omega)
        have g1 := upH_pos l.length (t := 1) (by omega)
        have f1 : ∀ k m, fzO (k + 1) m (some (ownB eHd (l ++ z))) 0 l.length = some (frS eHd l) := fun k m => by
          have := fzO_part eHd k m (l := l ++ z) (o := 0) (a := 0) (len := l.length) (by simp) (by simp)
          simpa using this
        have f2 : ∀ k m, fzO (k + 1) m (some (ownB eHd (markH 1 l.length ++ z))) 0 l.length = some (frS eHd (markH 1 l.length)) := fun k m => by
          have := fzO_part eHd k m (l := markH 1 l.length ++ z) (o := 0) (a := 0) (len := l.length) (by simp) (by simp)
          have e : (markH 1 l.length ++ z).take l.length = markH 1 l.length := by
            rw [List.take_append_of_le_length (by simp), List.take_of_length_le (by simp)]
          simpa [e] using this
        simp only [krV] at d3
        simp (maxSteps := 4000000) -implicitDefEqProofs [X_laws_FnExactLiftKey, retK_eq, c0, h0, c1, c3, c4, u, d1, d2, d3, d4, d5, z0, g1, f1, f2]
    · have d1 := s_spec_LiftKey_bad p k hl hok
      have d2 := s_impl_LiftKey_bad p k hl hok
      generalize (if kbF p = 0 then 3 else kbF p) = c at *
      have d3 := s_eqKeyResult c ⟨[], false, 0⟩ (by simp)
      have d4 := mark_KE c ⟨[], false, 0⟩ nilS (.inl rfl)
      have d5 := s_heldKeyResult c ⟨[], false, 0⟩ 0 (by omega)
      simp [markH, upH, frS_nil] at d3 d5
      simp only [krV, frS_nil] at d3
      simp (maxSteps := 4000000) -implicitDefEqProofs [X_laws_FnExactLiftKey, retK_eq, c0, h0, c1, c3, c4, u, d1, d2, d3, d4, d5, z0]
def good : List Nat := [2, 4, 197, 66, 68]
theorem good_ok : goodB CT good = true := by kernel_rfl
theorem all_FnExactLiftKey : ∀ xs, TypedAll CT [68, 2] xs → Fz CT 7 xs (.bool true)
  | [a, b], h => by
    obtain ⟨p, rfl, hp⟩ := typed_kb h.1
    obtain ⟨x, rfl, _⟩ := typed_i64 (i := 2) h.2.1 rfl
    exact fz_law ok_X_laws_FnExactLiftKey (s_FnExactLiftKey p x hp) (by simp)
  | [], h => h.elim
  | [_], h => h.2.elim
  | _ :: _ :: _ :: _, h => h.2.2.elim
end Go.Ab
