/- What the functions of the program answer, for all arguments that the theorems name as conditions. -/
import Derived.Test.YtkfbpdbopkdnjaaS8E7
import Derived.Test.YtkfbpdbopkdnjaaS8E5
namespace Go.Ab
open Go.Proofs
set_option linter.unusedSimpArgs false
set_option linter.unusedVariables false
set_option maxHeartbeats 40000000

/-! ## FnAborts -/
theorem st_24 (p : ParT) : stepP p 24 = (a0, p0) := by simp [stepP]
theorem st_27 (p : ParT) : stepP p 27 = (a0, ⟨1, 0, false, []⟩) := by simp [stepP]
theorem st_97 : stepP p0 97 = (⟨1, 97, 0, false, []⟩, p0) := by simp [stepP, p0]
theorem s_FnAborts (l : List Int) (hb : ∀ x ∈ l, 0 ≤ x ∧ x < 256) : X_laws_FnAborts [frS eU8 l] [] = some (.bool true, []) := by
  have b0 := s_lwBig l
  by_cases hbig : 1048576 < l.length
  · simp -implicitDefEqProofs [X_laws_FnAborts, retK_eq, b0, hbig]
  have hl := bytes_small hbig hb
  obtain ⟨p, c, hp, hd⟩ := d_StepParser l hl []
  by_cases hok : parF p = 0 ∧ chB c = true
  · obtain ⟨h1, h2⟩ := hok
    have z1 := z_impl_ok p c (by omega) h1 h2
    have z2 := z_spec_ok p c (by omega) h1 h2
    have hk := step_ok h1 (chB_b h2)
    have hn := par_len hk
    generalize stepP p c = st at *
    obtain ⟨a, r⟩ := st
    simp only at *
    have z3 := z_impl_ok r 24 (by omega) hk (by decide)
    have z4 := z_impl_ok r 27 (by omega) hk (by decide)
    have z5 := z_impl_ok p0 97 (by simp [p0]) parF_p0 (by decide)
    have z6 := s_impl_ParserFault r (by omega)
    rw [st_24] at z3
    rw [st_27] at z4
    rw [st_97] at z5
    rw [hk] at z6
    simp only [sprV, a0, p0, frS_nil] at z3 z4
    simp only [sprV, parV, a0, p0, frS_nil] at z5
    have z7 := s_SameParsers0
    simp (maxSteps := 4000000) -implicitDefEqProofs [-icall_eq, X_laws_FnAborts, retK_eq, b0, hbig, hd, z1, z2, z3, z4, z5, z6, z7]
  · have z1 := z_impl_bad p c (by omega) hok
    have z2 := z_spec_bad p c (by omega) hok
    have hk : ¬ (if parF p = 0 then (3 : Int) else parF p) = 0 := by split <;> omega
    generalize (if parF p = 0 then (3 : Int) else parF p) = k at *
    simp (maxSteps := 4000000) -implicitDefEqProofs [-icall_eq, X_laws_FnAborts, retK_eq, b0, hbig, hd, z1, z2, hk]
def good : List Nat := [22, 5]
theorem good_ok : goodB CT good = true := by kernel_rfl
theorem all_FnAborts : ∀ xs, TypedAll CT [22] xs → Fz CT 4 xs (.bool true)
  | [a], h => by
    obtain ⟨l, rfl, _, hb⟩ := typed_code (s := 22) (e := 5) h.1 rfl rfl rfl
    exact fz_law ok_X_laws_FnAborts (s_FnAborts l hb) (by simp)
  | [], h => h.elim
  | _ :: _ :: _, h => h.2.elim
end Go.Ab
