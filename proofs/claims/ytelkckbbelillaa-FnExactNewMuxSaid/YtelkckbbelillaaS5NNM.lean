/- What the functions of the program answer, for all arguments that the theorems name as conditions. -/
import Derived.Test.YtelkckbbelillaaS5NM1
import Derived.Test.YtelkckbbelillaaS5NM2
import Derived.Test.YtelkckbbelillaaS5NM3
import Derived.Test.YtelkckbbelillaaS5NM4
import Derived.Test.YtelkckbbelillaaS5NM5
import Derived.Test.YtelkckbbelillaaS5NM6
namespace Go.Ab
open Go.Proofs
set_option linter.unusedSimpArgs false
set_option linter.unusedVariables false
set_option maxHeartbeats 4000000
set_option maxRecDepth 1000000

/-! ## FnExactNewMux -/
def szB (r w : Int) : Bool := decide (1 ≤ r) && decide (r ≤ 6) && (decide (2 ≤ w) && decide (w ≤ 12))
theorem s_spec_l3Size (r w : Int) : X_spec_l3Size [.int .i64 r, .int .i64 w] [] = some (.bool (szB r w), []) := by
  have h : ∀ x a b : Int, X_spec_l1In [.int .i64 x, .int .i64 a, .int .i64 b] [] = some (.bool (decide (a ≤ x) && decide (x ≤ b)), []) := by
    intro x a b
    by_cases h : a ≤ x <;> simp -implicitDefEqProofs [X_spec_l1In, retK_eq, h]
  by_cases h1 : (decide (1 ≤ r) && decide (r ≤ 6)) = true <;> simp -implicitDefEqProofs [X_spec_l3Size, retK_eq, h, h1, szB]
theorem s_impl_sizeOk (r w : Int) : X_impl_sizeOk [.int .i64 r, .int .i64 w] [] = some (.bool (szB r w), []) := by
  have h : ∀ x a b : Int, X_impl_in [.int .i64 x, .int .i64 a, .int .i64 b] [] = some (.bool (decide (a ≤ x) && decide (x ≤ b)), []) := by
    intro x a b
    by_cases h : a ≤ x <;> simp -implicitDefEqProofs [X_impl_in, retK_eq, h]
  by_cases h1 : (decide (1 ≤ r) && decide (r ≤ 6)) = true <;> simp -implicitDefEqProofs [X_impl_sizeOk, retK_eq, h, h1, szB]
abbrev badV (c : Int) : Value := .agg #[.int .i64 c, .bool false, .slice none 0 0, .slice none 0 0, .slice none 0 0, .int .i64 0, .int .i64 0, .int .i64 0, .slice none 0 0, .slice none 0 0, .slice none 0 0, .bool false, .int .i64 0]
theorem bad_spec (r w : Int) (h : szB r w = false) : X_spec_NewMux [.int .i64 r, .int .i64 w] [] = some (badV 3, []) := by
  have h1 := s_spec_l3Size r w
  rw [h] at h1
  have h2 : X_spec_l14Bad [.int .i64 3] [] = some (badV 3, []) := by kernel_rfl
  simp -implicitDefEqProofs [X_spec_NewMux, retK_eq, h1, h2]
theorem bad_impl (r w : Int) (h : szB r w = false) : X_impl_NewMux [.int .i64 r, .int .i64 w] [] = some (badV 3, []) := by
  have h1 := s_impl_sizeOk r w
  rw [h] at h1
  simp -implicitDefEqProofs [X_impl_NewMux, retK_eq, h1]
theorem mapO_two (m : Mem) (r w : Int) : mapO (fz 64 m) [.int .i64 r, .int .i64 w] = some [.int .i64 r, .int .i64 w] := rfl
theorem law_bad (r w : Int) (h : szB r w = false) : isT (X_laws_FnExactNewMux [.int .i64 r, .int .i64 w] []) = true := by
  have e1 : ∀ m, C_spec_NewMux [.int .i64 r, .int .i64 w] m = some (badV 3, m ++ []) := fun m => by
    rw [c_spec_NewMux, fcall_eq, mapO_two, bo_some, bad_spec r w h]
    rfl
  have e2 : ∀ m, C_impl_NewMux [.int .i64 r, .int .i64 w] m = some (badV 3, m ++ []) := fun m => by
    rw [c_impl_NewMux, fcall_eq, mapO_two, bo_some, bad_impl r w h]
    rfl
  simp only [X_laws_FnExactNewMux, e1, e2]
  show isT _ = true
  kernel_rfl
theorem s_FnExactNewMux (r w : Int) : X_laws_FnExactNewMux [.int .i64 r, .int .i64 w] [] = some (.bool true, []) := by
  refine isT_eq ?_
  cases h : szB r w with
  | false => exact law_bad r w h
  | true =>
    simp [szB] at h
    obtain ⟨⟨h1, h2⟩, h3, h4⟩ := h
    rcases (by omega : r = 1 ∨ r = 2 ∨ r = 3 ∨ r = 4 ∨ r = 5 ∨ r = 6) with rfl | rfl | rfl | rfl | rfl | rfl
    · exact law_1 w h3 h4
    · exact law_2 w h3 h4
    · exact law_3 w h3 h4
    · exact law_4 w h3 h4
    · exact law_5 w h3 h4
    · exact law_6 w h3 h4
def good : List Nat := [2]
theorem good_ok : goodB CT good = true := by kernel_rfl
theorem all_FnExactNewMux : ∀ xs, TypedAll CT [2, 2] xs → Fz CT 3 xs (.bool true)
  | [a, b], h => by
    obtain ⟨r, rfl, _⟩ := typed_int h.1 (q := .i64) rfl
    obtain ⟨w, rfl, _⟩ := typed_int h.2.1 (q := .i64) rfl
    exact fz_law ok_X_laws_FnExactNewMux (s_FnExactNewMux r w) (by simp)
  | [], h => h.elim
  | [_], h => h.2.elim
  | _ :: _ :: _ :: _, h => h.2.2.elim
end Go.Ab
