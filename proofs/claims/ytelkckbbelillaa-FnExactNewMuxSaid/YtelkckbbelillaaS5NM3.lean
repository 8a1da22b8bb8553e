/- What the functions of the program answer, for all arguments that the theorems name as conditions. -/
import Derived.Test.YtelkckbbelillaaS5NM
namespace Go.Ab
open Go.Proofs
set_option linter.unusedSimpArgs false
set_option linter.unusedVariables false
set_option maxHeartbeats 4000000
set_option maxRecDepth 1000000

/-! ## New consoles of 3 rows, worked out -/
theorem law_3_2 : isT (X_laws_FnExactNewMux [.int .i64 3, .int .i64 2] []) = true := by
  simp only [X_laws_FnExactNewMux, y_impl_NewMux]
  kernel_rfl
theorem law_3_3 : isT (X_laws_FnExactNewMux [.int .i64 3, .int .i64 3] []) = true := by
  simp only [X_laws_FnExactNewMux, y_impl_NewMux]
  kernel_rfl
theorem law_3_4 : isT (X_laws_FnExactNewMux [.int .i64 3, .int .i64 4] []) = true := by
  simp only [X_laws_FnExactNewMux, y_impl_NewMux]
  kernel_rfl
theorem law_3_5 : isT (X_laws_FnExactNewMux [.int .i64 3, .int .i64 5] []) = true := by
  simp only [X_laws_FnExactNewMux, y_impl_NewMux]
  kernel_rfl
theorem law_3_6 : isT (X_laws_FnExactNewMux [.int .i64 3, .int .i64 6] []) = true := by
  simp only [X_laws_FnExactNewMux, y_impl_NewMux]
  kernel_rfl
theorem law_3_7 : isT (X_laws_FnExactNewMux [.int .i64 3, .int .i64 7] []) = true := by
  simp only [X_laws_FnExactNewMux, y_impl_NewMux]
  kernel_rfl
theorem law_3_8 : isT (X_laws_FnExactNewMux [.int .i64 3, .int .i64 8] []) = true := by
  simp only [X_laws_FnExactNewMux, y_impl_NewMux]
  kernel_rfl
theorem law_3_9 : isT (X_laws_FnExactNewMux [.int .i64 3, .int .i64 9] []) = true := by
  simp only [X_laws_FnExactNewMux, y_impl_NewMux]
  kernel_rfl
theorem law_3_10 : isT (X_laws_FnExactNewMux [.int .i64 3, .int .i64 10] []) = true := by
  simp only [X_laws_FnExactNewMux, y_impl_NewMux]
  kernel_rfl
theorem law_3_11 : isT (X_laws_FnExactNewMux [.int .i64 3, .int .i64 11] []) = true := by
  simp only [X_laws_FnExactNewMux, y_impl_NewMux]
  kernel_rfl
theorem law_3_12 : isT (X_laws_FnExactNewMux [.int .i64 3, .int .i64 12] []) = true := by
  simp only [X_laws_FnExactNewMux, y_impl_NewMux]
  kernel_rfl
theorem law_3 (w : Int) (h0 : 2 ≤ w) (h1 : w ≤ 12) : isT (X_laws_FnExactNewMux [.int .i64 3, .int .i64 w] []) = true := by
  rcases (by omega : w = 2 ∨ w = 3 ∨ w = 4 ∨ w = 5 ∨ w = 6 ∨ w = 7 ∨ w = 8 ∨ w = 9 ∨ w = 10 ∨ w = 11 ∨ w = 12) with rfl | rfl | rfl | rfl | rfl | rfl | rfl | rfl | rfl | rfl | rfl
  · exact law_3_2
  · exact law_3_3
  · exact law_3_4
  · exact law_3_5
  · exact law_3_6
  · exact law_3_7
  · exact law_3_8
  · exact law_3_9
  · exact law_3_10
  · exact law_3_11
  · exact law_3_12
end Go.Ab
