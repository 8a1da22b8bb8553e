/- What the functions of the program answer, for all arguments that the theorems name as conditions. -/
import Derived.Test.YtglkdfidjalkbaaG6
import Derived.Test.YtglkdfidjalkbaaG8
namespace Go.Ab
set_option linter.unusedSimpArgs false
set_option linter.unusedVariables false
set_option maxHeartbeats 4000000

theorem s_FnExactRowText (s : ScrT) (i : Int) (hs : s.fit) : X_laws_FnExactRowText [scrV s, .int .i64 i] [] = some (.bool true, []) := by
  have c0 := s_szScreen s 1048576 hs (by omega) (by omega)
  by_cases h0 : s.szl 1048576 < 0
  · simp (maxSteps := 2000000) +contextual -implicitDefEqProofs [X_laws_FnExactRowText, retK_eq, c0, h0]
  · have h := szs_small (by omega) h0
    have c1 := s_toScreen s h
    have c2 := s_spec_RowText s i h
    have c3 := s_impl_RowText s i h
    have c4 := s_eqScreen s h
    simp (maxSteps := 2000000) +contextual -implicitDefEqProofs [X_laws_FnExactRowText, retK_eq, c0, h0, c1, c2, c3, c4, s_eqTextResult]
theorem all_FnExactRowText : ∀ xs, TypedAll CT [66, 2] xs → Fz CT 12 xs (.bool true)
  | [a, b], h => by
    obtain ⟨s, rfl, hs, _⟩ := typed_screen h.1
    obtain ⟨i, rfl, _⟩ := typed_i64 (i := 2) h.2.1 rfl
    exact fz_law ok_X_laws_FnExactRowText (s_FnExactRowText s i hs) (by simp)
  | [], h => h.elim
  | [_], h => h.2.elim
  | _ :: _ :: _ :: _, h => h.2.2.elim
end Go.Ab
