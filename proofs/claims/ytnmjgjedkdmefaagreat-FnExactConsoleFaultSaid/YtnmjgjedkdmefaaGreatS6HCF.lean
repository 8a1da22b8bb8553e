/- What the functions of the program answer, for all arguments that the theorems name as conditions. -/
import Derived.Test.YtnmjgjedkdmefaaGreatS6H7
namespace Go.Ab
set_option linter.unusedSimpArgs false
set_option linter.unusedVariables false
set_option maxHeartbeats 4000000
theorem s_spec_ConsoleFault (c : ConT) (hc : c.small) : X_spec_ConsoleFault [conV c] [] = some (.int .i64 (faultC c), []) := by
  have h := s_spec_l13Fault c hc
  simp (maxSteps := 2000000) +contextual -implicitDefEqProofs [X_spec_ConsoleFault, retK_eq, h]
theorem s_FnExactConsoleFault (s : ConT) (hs : s.fit) : X_laws_FnExactConsoleFault [conV s] [] = some (.bool true, []) := by
  have c0 := s_szConsole s 1048576 hs (by omega) (by omega)
  by_cases h0 : s.szl 1048576 < 0
  · simp (maxSteps := 2000000) +contextual -implicitDefEqProofs [X_laws_FnExactConsoleFault, retK_eq, c0, h0]
  · have h := szc_small (by omega) h0
    have c1 := s_toConsole s h
    have c2 := s_spec_ConsoleFault s h
    have c3 := s_impl_ConsoleFault s h
    have c4 := s_eqConsole s h
    simp (maxSteps := 2000000) +contextual -implicitDefEqProofs [X_laws_FnExactConsoleFault, retK_eq, c0, h0, c1, c2, c3, c4]
theorem all_FnExactConsoleFault : ∀ xs, TypedAll CT [42] xs → Fz CT 3 xs (.bool true)
  | [a], h => by
    obtain ⟨s, rfl, hs⟩ := typed_con h.1
    exact fz_law ok_X_laws_FnExactConsoleFault (s_FnExactConsoleFault s hs) (by simp)
  | [], h => h.elim
  | _ :: _ :: _, h => h.2.elim
end Go.Ab
