/- What the functions of the program answer, for all arguments that the theorems name as conditions. -/
import Derived.Test.YtnmjgjedkdmefaaS4H7
import Derived.Test.YtnmjgjedkdmefaaS4H10
namespace Go.Ab
set_option linter.unusedSimpArgs false
set_option linter.unusedVariables false
set_option maxHeartbeats 8000000
theorem s_FnExactSameConsoles (s t : ConT) (hs : s.fit) (ht : t.fit) (w1 : s.l.wf) (w2 : t.l.wf) : X_laws_FnExactSameConsoles [conV s, conV t] [] = some (.bool true, []) := by
  have c0 := s_szConsole s 1048576 hs (by omega) (by omega)
  by_cases h0 : s.szl 1048576 < 0
  · simp (maxSteps := 2000000) +contextual -implicitDefEqProofs [X_laws_FnExactSameConsoles, retK_eq, c0, h0]
  · have hle : s.szl 1048576 ≤ 1048576 := szl_leC (by omega)
    have c1 := s_szConsole t (s.szl 1048576) ht (by omega) hle
    by_cases h1 : t.szl (s.szl 1048576) < 0
    · simp (maxSteps := 2000000) +contextual -implicitDefEqProofs [X_laws_FnExactSameConsoles, retK_eq, c0, h0, c1, h1]
    · have h := szc_small (by omega) h0
      have h' := szc_small hle h1
      have d1 := s_toConsole s h
      have d2 := s_toConsole t h'
      have c2 := s_spec_SameConsoles s t h w1 w2
      have c3 := s_impl_SameConsoles s t h
      have c4 := s_eqConsole s h
      have c5 := s_eqConsole t h'
      simp (maxSteps := 4000000) -implicitDefEqProofs [X_laws_FnExactSameConsoles, retK_eq, c0, h0, c1, h1, d1, d2, c2, c3, c4, c5]
theorem all_FnExactSameConsoles : ∀ xs, TypedAll CT [92, 92] xs → Fz CT 8 xs (.bool true)
  | [a, b], h => by
    obtain ⟨s, rfl, hs, w1⟩ := typed_con h.1
    obtain ⟨t, rfl, ht, w2⟩ := typed_con h.2.1
    exact fz_law ok_X_laws_FnExactSameConsoles (s_FnExactSameConsoles s t hs ht w1 w2) (by simp)
  | [], h => h.elim
  | [_], h => h.2.elim
  | _ :: _ :: _ :: _, h => h.2.2.elim
end Go.Ab
