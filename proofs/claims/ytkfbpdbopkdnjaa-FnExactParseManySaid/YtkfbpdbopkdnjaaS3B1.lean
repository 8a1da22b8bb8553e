/- What the functions of the program answer, for all arguments that the theorems name as conditions. -/
import Derived.Test.YtkfbpdbopkdnjaaS3B1j
namespace Go.Ab
set_option linter.unusedSimpArgs false
set_option linter.unusedVariables false
set_option maxHeartbeats 8000000

def chB (x : Int) : Bool := inB x 0 65535 && !inB x 55296 57343
theorem s_impl_isChar (x : Int) : X_impl_isChar [.int .i64 x] [] = some (.bool (chB x), []) := by
  simp +contextual -implicitDefEqProofs [X_impl_isChar, s_impl_in, retK_eq]
  unfold chB
  cases inB x 0 65535 <;> simp
theorem s_spec_l1Char (x : Int) : X_spec_l1Char [.int .i64 x] [] = some (.bool (chB x), []) := by
  simp +contextual -implicitDefEqProofs [X_spec_l1Char, s_spec_l1In, retK_eq]
  unfold chB
  by_cases h : inB x 0 55295 = true
  · have : inB x 0 65535 = true ∧ inB x 55296 57343 = false := by simp [inB] at h ⊢; omega
    simp [h, this]
  · by_cases h2 : inB x 57344 65535 = true
    · have : inB x 0 65535 = true ∧ inB x 55296 57343 = false := by simp [inB] at h h2 ⊢; omega
      simp [h, h2, this]
    · have : inB x 0 65535 = false ∨ inB x 55296 57343 = true := by simp [inB] at h h2 ⊢; omega
      simp [h, h2]
      intro h3
      rcases this with h4 | h4
      · rw [h3] at h4; cases h4
      · exact h4
end Go.Ab
