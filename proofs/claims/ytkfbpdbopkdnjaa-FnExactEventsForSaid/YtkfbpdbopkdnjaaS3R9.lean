/- What the functions of the program answer, for all arguments that the theorems name as conditions. -/
import Derived.Test.YtkfbpdbopkdnjaaS3R8
namespace Go.Ab
set_option linter.unusedSimpArgs false
set_option linter.unusedVariables false
set_option maxHeartbeats 8000000

theorem memAE_len (k : Nat) (l : List EvT) : (memAE k l).length = l.length + 1 := by
  show (famM eU8 (l.map elE)).length + 1 = _
  rw [famM_len, elE_N]
theorem s_markEventS (l : List EvT) (t : Int) (hl : l.length < 1100000) (hb : ∀ x ∈ l, x.d.length < 1000000000) (h0 : 0 ≤ t) (h1 : upES t l ≤ 100000000000) : X_laws_markEventS [slO 0 l.length, .int .i64 t] (memAE 1 l) = some (.int .i64 (upES t l), memAE 1 (markES t l)) := by
  have h := l_markEventS l [] t QQ l.length (by unfold QQ; omega) rfl hl hb h0 h1
  have hcut := fun pv J => cutN_fam eU8 (k := l.length + 1) (s := 13) (n := l.length) (c := l.length) (es := l.map elE) (xs := []) (ys := [.int .i64 t, .int .i64 0]) (pv := pv) (J := J) (by rw [elE_N]) rfl rfl (ok_AE _) (by rw [elE_N]; omega)
  simp only [List.nil_append, List.length_nil, Int.natCast_zero] at h hcut
  have hcut : ∀ pv J, cutK (l.length + 1) (memAE 1 l) pv [slO 0 l.length, .int .i64 t, .int .i64 0] J = J [slO 0 l.length, .int .i64 t, .int .i64 0] (memAE 1 l) := hcut
  have hM := memAE_len 1 l
  generalize memAE 1 l = M at *
  simp (maxSteps := 400000) -implicitDefEqProofs [X_laws_markEventS, hM, hcut, h]
theorem f_markEventS (A B : Mem) (l : List EvT) (t : Int) (hl : l.length < 1100000) (hb : ∀ x ∈ l, x.d.length < 1000000000) (h0 : 0 ≤ t) (h1 : upES t l ≤ 100000000000) : rcall X_laws_markEventS [slO A.length l.length, .int .i64 t] (A ++ (famB (A.length + 1) 13 (l.map elE) :: (famM eU8 (l.map elE) ++ B))) = some (.int .i64 (upES t l), A ++ (famB (A.length + 1) 13 ((markES t l).map elE) :: (famM eU8 ((markES t l).map elE) ++ B))) :=
  rcall_fam eU8 A B 13 l.length l.length (l.map elE) ((markES t l).map elE) [.int .i64 t] (.int .i64 (upES t l)) rfl rfl (ok_AE l) (ok_AE _) (by rw [elE_N, elE_N, markES_len]) (by rw [elE_N]; omega) (s_markEventS l t hl hb h0 h1)
end Go.Ab
