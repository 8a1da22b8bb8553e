/- What the functions of the program answer, for all arguments that the theorems name as conditions. -/
import Derived.Test.YtelkckbbelillaaS5G25a
namespace Go.Ab
set_option linter.unusedSimpArgs false
set_option linter.unusedVariables false
set_option maxHeartbeats 8000000

theorem s_spec_l3New (S V : Nat) (h : S * V < 100000) : X_spec_l3New [.int .i64 S, .int .i64 V] [] = some (.agg #[.int .i64 S, .int .i64 V, slO 0 (S * V), .slice none 0 0], [ownB eC (List.replicate (S * V) bl0)]) := by
  have hb := s_spec_l3Blanks (S * V) 0 (by omega)
  have w3 : IntKind.i64.wrap ((S : Int) * V) = ((S * V : Nat) : Int) := by rw [← Int.natCast_mul, wrap_i64 (by omega) (by omega)]
  generalize S * V = N at *
  simp -implicitDefEqProofs [X_spec_l3New, retK_eq, hb, w3]
end Go.Ab
