/- What the functions of the program answer, for all arguments that the theorems name as conditions. -/
import Derived.Test.YtnmjgjedkdmefaaS4H3
namespace Go.Ab
set_option linter.unusedSimpArgs false
set_option linter.unusedVariables false
set_option maxHeartbeats 4000000
theorem s_FnExactVtFault (s : VtT) (hs : s.fit) : X_laws_FnExactVtFault [vtV s] [] = some (.bool true, []) := by
  have c0 := s_szVt s 1048576 hs (by omega) (by omega)
  by_cases h0 : s.szl 1048576 < 0
  · simp (maxSteps := 2000000) +contextual -implicitDefEqProofs [X_laws_FnExactVtFault, retK_eq, c0, h0]
  · have h := szv_small (by omega) h0
    have c1 := s_toVt s h
    have c2 := s_spec_VtFault s h
    have c3 := s_impl_VtFault s h
    have c4 := s_eqVt s h
    simp (maxSteps := 2000000) +contextual -implicitDefEqProofs [X_laws_FnExactVtFault, retK_eq, c0, h0, c1, c2, c3, c4]
theorem all_FnExactVtFault : ∀ xs, TypedAll CT [68] xs → Fz CT 6 xs (.bool true)
  | [a], h => by
    obtain ⟨s, rfl, hs⟩ := typed_vt h.1
    exact fz_law ok_X_laws_FnExactVtFault (s_FnExactVtFault s hs) (by simp)
  | [], h => h.elim
  | _ :: _ :: _, h => h.2.elim
end Go.Ab
