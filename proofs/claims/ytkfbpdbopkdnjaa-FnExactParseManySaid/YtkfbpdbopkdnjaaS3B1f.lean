/- What the functions of the program answer, for all arguments that the theorems name as conditions. -/
import Derived.Test.YtkfbpdbopkdnjaaS3B0
namespace Go.Ab
set_option linter.unusedSimpArgs false
set_option linter.unusedVariables false
set_option maxHeartbeats 8000000

theorem s_impl_first (a b : Int) : X_impl_first [frS eI6 [a, b]] [] = some (.int .i64 (if a = 0 then b else a), []) := by
  have h1 : ∀ q, L_impl_first 0 (q + 1) 0 [frS eI6 [a, b], .int .i64 2, .int .i64 2] [] = some (.int .i64 0, []) := by
    intro q
    simp +contextual -implicitDefEqProofs [L_impl_first, retK_eq, cutK_eq]
  have h2 : ∀ q, L_impl_first 0 (q + 2) 0 [frS eI6 [a, b], .int .i64 2, .int .i64 1] [] = some (.int .i64 b, []) := by
    intro q
    have hx := ixa_mid eI6 (sz := 1) rfl .i64 [a] b []
    simp at hx
    simp +contextual -implicitDefEqProofs [L_impl_first, retK_eq, cutK_eq, h1, hx, wrap_i64]
  have h3 : L_impl_first 0 QQ 0 [frS eI6 [a, b], .int .i64 2, .int .i64 0] [] = some (.int .i64 (if a = 0 then b else a), []) := by
    obtain ⟨q, hq⟩ : ∃ n, QQ = n + 3 := ⟨QQ - 3, by unfold QQ; omega⟩
    have hx := ixa_mid eI6 (sz := 1) rfl .i64 [] a [b]
    simp at hx
    rw [hq]
    simp +contextual -implicitDefEqProofs [L_impl_first, retK_eq, cutK_eq, h2, hx, wrap_i64]
    split <;> rfl
  simp +contextual -implicitDefEqProofs [X_impl_first, retK_eq, cutK_eq, h3]
@[simp] theorem fz_two (k : Nat) (m : Mem) (a b : Int) : fzO (k + 1) m (some ⟨[.int .i64 a, .int .i64 b], 1, true, true⟩) 0 2 = some (frS eI6 [a, b]) := fzO_own eI6 k m [a, b]
end Go.Ab
