/- What the functions of the program answer, for all arguments that the theorems name as conditions. -/
import Derived.Test.YtelkckbbelillaaS5NM
namespace Go.Ab
open Go.Proofs
set_option linter.unusedSimpArgs false
set_option linter.unusedVariables false
set_option maxHeartbeats 4000000
set_option maxRecDepth 1000000

/-! ## New consoles of 5 rows, worked out -/
theorem law_5_2 : isT (X_laws_FnExactNewMux [.int .i64 5, .int .i64 2] []) = true := by
  simp only [X_laws_FnExactNewMux, y_impl_NewMux]
  kernel_rfl
theorem law_5_3 : isT (X_laws_FnExactNewMux [.int .i64 5, .int .i64 3] []) = true := by
  simp only [X_laws_FnExactNewMux, y_impl_NewMux]
  kernel_rfl
theorem law_5_4 : isT (X_laws_FnExactNewMux [.int .i64 5, .int .i64 4] []) = true := by
  simp only [X_laws_FnExactNewMux, y_impl_NewMux]
  kernel_rfl
theorem law_5_5 : isT (X_laws_FnExactNewMux [.int .i64 5, .int .i64 5] []) = true := by
  simp only [X_laws_FnExactNewMux, y_impl_NewMux]
  kernel_rfl
theorem law_5_6 : isT (X_laws_FnExactNewMux [.int .i64 5, .int .i64 6] []) = true := by
  simp only [X_laws_FnExactNewMux, y_impl_NewMux]
  kernel_rfl
theorem law_5_7 : isT (X_laws_FnExactNewMux [.int .i64 5, .int .i64 7] []) = true := by
  simp only [X_laws_FnExactNewMux, y_impl_NewMux]
  kernel_rfl
theorem law_5_8 : isT (X_laws_FnExactNewMux [.int .i64 5, .int .i64 8] []) = true := by
  simp only [X_laws_FnExactNewMux, y_impl_NewMux]
  kernel_rfl
theorem law_5_9 : isT (X_laws_FnExactNewMux [.int .i64 5, .int .i64 9] []) = true := by
  simp only [X_laws_FnExactNewMux, y_impl_NewMux]
  kernel_rfl
theorem law_5_10 : isT (X_laws_FnExactNewMux [.int .i64 5, .int .i64 10] []) = true := by
  simp only [X_laws_FnExactNewMux, y_impl_NewMux]
  kernel_rfl
theorem law_5_11 : isT (X_laws_FnExactNewMux [.int .i64 5, .int .i64 11] []) = true := by
  simp only [X_laws_FnExactNewMux, y_impl_NewMux]
  kernel_rfl
theorem law_5_12 : isT (X_laws_FnExactNewMux [.int .i64 5, .int .i64 12] []) = true := by
  simp only [X_laws_FnExactNewMux, y_impl_NewMux]
  kernel_rfl
theorem law_5 (w : Int) (h0 : 2 ≤ w) (h1 : w ≤ 12) : isT (X_laws_FnExactNewMux [.int .i64 5, .int .i64 w] []) = true := by
  rcases (by omega : w = 2 ∨ w = 3 ∨ w = 4 ∨ w = 5 ∨ w = 6 ∨ w = 7 ∨ w = 8 ∨ w = 9 ∨ w = 10 ∨ w = 11 ∨ w = 12) with rfl | rfl | rfl | rfl | rfl | rfl | rfl | rfl | rfl | rfl | rfl
  · exact law_5_2
  · exact law_5_3
  · exact law_5_4
  · exact law_5_5
  · exact law_5_6
  · exact law_5_7
  · exact law_5_8
  · exact law_5_9
  · exact law_5_10
  · exact law_5_11
  · exact law_5_12
end Go.Ab
