/- What the functions of the program answer, for all arguments that the theorems name as conditions. -/
import Derived.Test.YtkfbpdbopkdnjaaS3L5
import Derived.Test.YtkfbpdbopkdnjaaS3L2
namespace Go.Ab
set_option linter.unusedSimpArgs false
set_option linter.unusedVariables false
set_option maxHeartbeats 8000000

/-! ## LiftKey of the program -/
abbrev nilS : Value := .slice none 0 0
abbrev krZ (k : Int) : Value := .agg #[.int .i64 k, nilS, .int .i64 0, nilS, .bool false, .int .i64 0]
abbrev krW (p : KbT) (v : Value) : Value := .agg #[.int .i64 0, nilS, .int .i64 0, v, .bool p.cap, .int .i64 p.acc]
theorem s_impl_Keyboard_clone (p : KbT) (hl : p.hs.length < 1000000000) (h : p.hs ≠ []) : X_impl_Keyboard_clone [kbV p] [] = some (kbO p 0, [ownB eHd p.hs]) := by
  have c1 := fun m => cloneV_frS eHd eHd_hard (sz := 2) rfl m p.hs h hl
  simp +contextual -implicitDefEqProofs [X_impl_Keyboard_clone, retK_eq, c1]
theorem s_impl_Keyboard_clone0 (p : KbT) (h : p.hs = []) : X_impl_Keyboard_clone [kbV p] [] = some (kbW p (roS 0 []), []) := by
  simp +contextual -implicitDefEqProofs [X_impl_Keyboard_clone, retK_eq, h, frS_nil]
theorem s_impl_LiftKey_bad (p : KbT) (k : Int) (hl : p.hs.length < 1000000000) (h : ¬ (kbF p = 0 ∧ inB k 1 40 = true)) : X_impl_LiftKey [kbV p, .int .i64 k] [] = some (krZ (if kbF p = 0 then 3 else kbF p), []) := by
  have c1 := s_impl_KeyboardFault p hl
  by_cases h1 : kbF p = 0
  · have h2 : inB k 1 40 = false := by cases h3 : inB k 1 40; · rfl
                                       · exact absurd ⟨h1, h3⟩ h
    simp -implicitDefEqProofs [X_impl_LiftKey, retK_eq, c1, s_impl_isKey, s_impl_unless, s_impl_first, unl, h1, h2]
  · simp -implicitDefEqProofs [X_impl_LiftKey, retK_eq, c1, s_impl_isKey, s_impl_unless, s_impl_first, h1]
theorem s_impl_LiftKey0 (p : KbT) (k : Int) (hn : p.hs = []) (h1 : kbF p = 0) (h2 : inB k 1 40 = true) : X_impl_LiftKey [kbV p, .int .i64 k] [] = some (krW p (roS 0 []), []) := by
  have c1 := s_impl_KeyboardFault p (by rw [hn]; simp)
  have c2 := s_impl_Keyboard_clone0 p hn
  have c3 := s_DeleteFuncE k
  simp -implicitDefEqProofs [X_impl_LiftKey, retK_eq, c1, c2, c3, s_impl_isKey, s_impl_unless, s_impl_first, unl, h1, h2]
theorem s_impl_LiftKeyN (p : KbT) (k : Int) (hl : p.hs.length < 1000000000) (hn : p.hs ≠ []) (h1 : kbF p = 0) (h2 : inB k 1 40 = true) : ∃ z : List HdT, (lessH k p.hs).length + z.length = p.hs.length ∧ X_impl_LiftKey [kbV p, .int .i64 k] [] = some (krW p (.slice (some ⟨0, 0, none⟩) (lessH k p.hs).length ((lessH k p.hs).length + z.length)), [ownB eHd (lessH k p.hs ++ z)]) := by
  have c1 := s_impl_KeyboardFault p hl
  have c2 := s_impl_Keyboard_clone p hl hn
  obtain ⟨z, hz, c3⟩ := s_DeleteFunc k p.hs hl
  refine ⟨z, hz, ?_⟩
  simp -implicitDefEqProofs [X_impl_LiftKey, retK_eq, c1, c2, c3, s_impl_isKey, s_impl_unless, s_impl_first, unl, h1, h2]
end Go.Ab
