/- What the functions of the program answer, for all arguments that the theorems name as conditions. -/
import Derived.Test.YtkfbpdbopkdnjaaS3R0
import Derived.Test.YtkfbpdbopkdnjaaS3B3z
namespace Go.Ab
set_option linter.unusedSimpArgs false
set_option linter.unusedVariables false
set_option maxHeartbeats 8000000

/-! ## Sizes -/
theorem s_szByteS (l : List Int) (left : Int) (hl : l.length ≤ 9223372036854775807) (h0 : 0 ≤ left) (h1 : left ≤ 1048576) : X_laws_szByteS [frS eU8 l, .int .i64 left] [] = some (.int .i64 (szN l.length left), []) := by
  have hw : IntKind.i64.wrap (left - l.length) = left - l.length := wrap_i64 (by omega) (by omega)
  simp +contextual -implicitDefEqProofs [X_laws_szByteS, retK_eq, hw]
  unfold szN
  split <;> rfl
def szL : List Nat → Int → Int
  | [], left => left
  | n :: r, left => if szN n left < 0 then -1 else szL r (szN n left)
theorem szN_neg {n : Nat} {x : Int} (h : szN n x < 0) : szN n x = -1 := by unfold szN at *; split at h <;> simp_all
end Go.Ab
