/- What the functions of the program answer, for all arguments that the theorems name as conditions. -/
import Derived.Test.YtelkckbbelillaaS5G29
namespace Go.Ab
set_option linter.unusedSimpArgs false
set_option linter.unusedVariables false
set_option maxHeartbeats 8000000

/-! ## ResizeGrid of the program -/
def reC (g : GridT) (rows v : Int) : List CellT := widN g.w.toNat v.toNat g.r.toNat g.cs ++ List.replicate ((rows.toNat - g.r.toNat) * v.toNat) bl0
def reB (g : GridT) (v : Int) : List CellT := widN g.w.toNat v.toNat (g.bk.length / g.w.toNat) g.bk
def reG (g : GridT) (rows v : Int) : GridT := ⟨rows, v, (reC g rows v).take (rows.toNat * v.toNat), reB g v⟩
theorem re_facts {g : GridT} {rows v : Int} (hf : faultG g = 0) (ho : szB rows v = true) : ∃ R W S V e : Nat, g.r = R ∧ g.w = W ∧ rows = S ∧ v = V ∧ 1 ≤ R ∧ R ≤ 6 ∧ 2 ≤ W ∧ W ≤ 12 ∧ 1 ≤ S ∧ S ≤ 6 ∧ 2 ≤ V ∧ V ≤ 12 ∧ g.cs.length = R * W ∧ g.bk.length = e * W ∧ e ≤ 5 ∧ g.bk.length / W = e := by
  obtain ⟨q1, q2, q3, q4, q5, q6, q7, q8, q9, q10, _⟩ := grid_facts hf
  obtain ⟨a1, a2, a3, a4⟩ := szB_b ho
  obtain ⟨R, hR⟩ := Int.eq_ofNat_of_zero_le (show 0 ≤ g.r by omega)
  obtain ⟨W, hW⟩ := Int.eq_ofNat_of_zero_le (show 0 ≤ g.w by omega)
  obtain ⟨S, hS⟩ := Int.eq_ofNat_of_zero_le (show 0 ≤ rows by omega)
  obtain ⟨V, hV⟩ := Int.eq_ofNat_of_zero_le (show 0 ≤ v by omega)
  rw [hW] at q9 q10
  rw [hR, hW] at q5
  have q10' : g.bk.length % W = 0 := by
    have : (g.bk.length : Int).tmod W = ((g.bk.length % W : Nat) : Int) := rfl
    omega
  have hd := Nat.div_add_mod g.bk.length W
  rw [q10', Nat.add_zero, Nat.mul_comm] at hd
  refine ⟨R, W, S, V, g.bk.length / W, hR, hW, hS, hV, by omega, by omega, by omega, by omega, by omega, by omega, by omega, by omega, by exact_mod_cast q5, hd.symm, ?_, rfl⟩
  apply Nat.div_le_of_le_mul
  rw [Nat.mul_comm]
  omega
theorem reC_len {g : GridT} {R W S V : Nat} (h1 : g.r = R) (h2 : g.w = W) : (reC g S V).length = R * V + (S - R) * V := by
  simp [reC, widN_len, h1, h2]
theorem re_le {R S V : Nat} : S * V ≤ R * V + (S - R) * V := by
  rw [← Nat.add_mul]
  exact Nat.mul_le_mul_right _ (by omega)
theorem s_resized (g : GridT) (rows v : Int) (hf : faultG g = 0) (ho : szB rows v = true) : X_impl_Grid_resized [gridV g, .int .i64 rows, .int .i64 v] [] = some (.agg #[.int .i64 rows, .int .i64 v, slQ 0 0 (reG g rows v).cs.length (reC g rows v).length, slO 1 (reB g v).length], [ownB eC (reC g rows v), ownB eC (reB g v)]) := by
  obtain ⟨R, W, S, V, e, hR, hW, rfl, rfl, R1, R6, W2, W12, S1, S6, V2, V12, hcs, hbk, he, hdiv⟩ := re_facts hf ho
  have c1 := s_widened W V R g.cs W2 W12 V2 V12 hcs R6
  have c2 := s_widened W V e g.bk W2 W12 V2 V12 hbk (by omega)
  have m1 : R * V ≤ 6 * 12 := Nat.mul_le_mul R6 V12
  have m2 : (S - R) * V ≤ 6 * 12 := Nat.mul_le_mul (by omega) V12
  have m3 : S * V ≤ 6 * 12 := Nat.mul_le_mul S6 V12
  have m4 : 1 * 2 ≤ R * V := Nat.mul_le_mul R1 V2
  have m5 : 1 * 2 ≤ S * V := Nat.mul_le_mul S1 V2
  have m6 := re_le (R := R) (S := S) (V := V)
  have hl := reC_len (S := S) (V := V) hR hW
  have hlF : (reG g S V).cs.length = S * V := by simp [reG, hl]; omega
  have w1 : IntKind.i64.wrap ((S : Int) - R) = (S : Int) - R := wrap_i64 (by omega) (by omega)
  have hm : max ((S : Int) - R) 0 = ((S - R : Nat) : Int) := by omega
  have w2 : IntKind.i64.wrap (((S - R : Nat) : Int) * V) = (((S - R) * V : Nat) : Int) := by rw [← Int.natCast_mul, wrap_i64 (by omega) (by omega)]
  have w3 : IntKind.i64.wrap ((S : Int) * V) = ((S * V : Nat) : Int) := by rw [← Int.natCast_mul, wrap_i64 (by omega) (by omega)]
  have hb := s_blanks 0 ((S - R) * V) (by omega)
  have hfr := fun j m => fzO_own eC j m (List.replicate ((S - R) * V) (⟨32, 0⟩ : CellT))
  have hfw := fun j m => fzO_own eC j m (widN W V R g.cs)
  simp only [List.length_replicate, widN_len] at hfr hfw
  have cc := s_ConcatC (widN W V R g.cs) (List.replicate ((S - R) * V) ⟨32, 0⟩) (by simp only [widN_len, List.length_replicate]; omega) (by simp only [widN_len, List.length_replicate]; omega)
  simp only [two, widN_len, List.length_replicate] at cc
  have ec : widN W V R g.cs ++ List.replicate ((S - R) * V) ⟨32, 0⟩ = reC g S V := by simp [reC, hR, hW]
  have eb : widN W V e g.bk = reB g V := by simp [reB, hW, hdiv]
  have hlb : (reB g V).length = e * V := by rw [← eb, widN_len]
  rw [ec] at cc
  rw [eb] at c2
  have s3 := fun m k (hm : esOf m k = some 2) => sl_own (m := m) (sz := 2) (n := k) (o := 0) (len := R * V + (S - R) * V) (c := R * V + (S - R) * V) (lo := none) (hi := some (.int .i64 (S * V : Nat))) hm rfl (bnd_nat _ _ _) (by omega) m6 (by omega)
  simp only [Nat.sub_zero, Nat.zero_mul, Nat.add_zero] at s3
  rw [hlF, hl, hlb]
  generalize reC g S V = rc at *
  generalize reB g V = rb at *
  generalize widN W V R g.cs = wc at *
  generalize (S - R) * V = D at *
  generalize R * V = RV at *
  generalize S * V = SV at *
  generalize S - R = SR at *
  simp (maxSteps := 400000) -implicitDefEqProofs [X_impl_Grid_resized, retK_eq, hR, hW, c1, c2, w1, hm, w2, w3, hb, hfr, hfw, cc, s3, esOf]
end Go.Ab
