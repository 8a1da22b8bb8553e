/- What the functions of the program answer, for all arguments that the theorems name as conditions. -/
import Derived.Test.YtelkckbbelillaaS5G31
namespace Go.Ab
set_option linter.unusedSimpArgs false
set_option linter.unusedVariables false
set_option maxHeartbeats 8000000

theorem put_row3 {α : Type} (S l : List α) (p W : Nat) (hl : S.length = l.length) (h : p + W ≤ l.length) : (S.take p ++ l.drop p).take p ++ (S.drop p).take W ++ (S.take p ++ l.drop p).drop (p + W) = S.take (p + W) ++ l.drop (p + W) := by
  have hp : (S.take p).length = p := by simp; omega
  rw [List.take_left' hp, ← List.take_add, List.drop_append, hp, List.drop_of_length_le (by omega), List.nil_append, show p + W - p = W by omega, List.drop_drop]
theorem F_row (cs : List CellT) (R W S V y : Nat) (hr : y < R) (hs : y < S) : ((((widN W V R cs ++ List.replicate ((S - R) * V) bl0).take (S * V)).drop (y * V)).take V) = rowFit ((cs.drop (y * W)).take W) V := by
  have e1 : (y + 1) * V ≤ R * V := Nat.mul_le_mul_right _ hr
  have e2 : (y + 1) * V ≤ S * V := Nat.mul_le_mul_right _ hs
  rw [Nat.succ_mul] at e1 e2
  have hl := widN_len W V R cs
  rw [List.drop_take, List.take_take, Nat.min_eq_left (by omega), List.drop_append_of_le_length (by omega), List.take_append_of_le_length (by rw [List.length_drop]; omega), widN_row _ _ _ _ _ hr]
theorem F_end (cs : List CellT) (R W S V : Nat) : ((widN W V R cs ++ List.replicate ((S - R) * V) bl0).take (S * V)).take (min S R * V) ++ (List.replicate (S * V) bl0).drop (min S R * V) = (widN W V R cs ++ List.replicate ((S - R) * V) bl0).take (S * V) := by
  have hl := widN_len W V R cs
  rcases Nat.le_total S R with h | h
  · rw [Nat.min_eq_left h, List.take_take, Nat.min_self, List.drop_of_length_le (by simp), List.append_nil]
  · have e : S * V = R * V + (S - R) * V := by rw [← Nat.add_mul]; congr 1; omega
    rw [Nat.min_eq_right h, List.take_take, Nat.min_eq_left (by omega), List.take_left' hl, List.take_of_length_le (by rw [List.length_append, hl, List.length_replicate]; omega), List.drop_replicate]
    congr 2
    omega
theorem l_resize0 (R W S V e : Nat) (g : GridT) (hR : R ≤ 6) (hS : S ≤ 6) (hW2 : 2 ≤ W) (hW : W ≤ 12) (hV2 : 2 ≤ V) (hV : V ≤ 12) (hcs : g.cs.length = R * W) (hbk : g.bk.length = e * W) (he : e ≤ 5) (F : List CellT) (hF : F = (widN W V R g.cs ++ List.replicate ((S - R) * V) bl0).take (S * V)) :
    ∃ bv' bm', ((e = 0 ∧ bv' = .slice none 0 0 ∧ bm' = []) ∨ (0 < e ∧ bv' = slO 1 (e * V) ∧ bm' = [ownB eC (widN W V e g.bk)])) ∧ ∀ (d y q : Nat), d + y = min S R → d + 20 < q → L_spec_l3Resize 0 q 0 [.int .i64 S, .int .i64 V, ptr 0, ptr 1, ptr 2, .int .i64 y] (rzM R W g S V (F.take (y * V) ++ (List.replicate (S * V) bl0).drop (y * V))) = some (.agg #[.int .i64 S, .int .i64 V, slO 0 (S * V), bv'], ownB eC F :: bm') := by
  have hFl : F.length = S * V := by
    have : S * V ≤ R * V + (S - R) * V := re_le
    rw [hF]
    simp [widN_len]
    omega
  have key : ∀ q, 19 < q → ∃ bv' bm', ((e = 0 ∧ bv' = .slice none 0 0 ∧ bm' = []) ∨ (0 < e ∧ bv' = slO 1 (e * V) ∧ bm' = [ownB eC (widN W V e g.bk)])) ∧ L_spec_l3Resize 0 q 1 [.int .i64 V, ptr 0, ptr 1, ptr 2, .int .i64 0] (rzM R W g S V F) = some (.agg #[.int .i64 S, .int .i64 V, slO 0 F.length, bv'], ownB eC F :: bm') := by
    intro q hq
    have := l_resize1 R W S V e g F hW2 hW hV2 hV hbk he e 0 q (.slice none 0 0) [] (by omega) (by omega) (.inl ⟨rfl, rfl, rfl⟩)
    simpa using this
  have uniq : ∃ bv' bm', ((e = 0 ∧ bv' = .slice none 0 0 ∧ bm' = []) ∨ (0 < e ∧ bv' = slO 1 (e * V) ∧ bm' = [ownB eC (widN W V e g.bk)])) ∧ ∀ q, 19 < q → L_spec_l3Resize 0 q 1 [.int .i64 V, ptr 0, ptr 1, ptr 2, .int .i64 0] (rzM R W g S V F) = some (.agg #[.int .i64 S, .int .i64 V, slO 0 F.length, bv'], ownB eC F :: bm') := by
    rcases Nat.eq_zero_or_pos e with h0 | h0
    · refine ⟨_, _, .inl ⟨h0, rfl, rfl⟩, fun q hq => ?_⟩
      obtain ⟨bv, bm, hb, h⟩ := key q hq
      rcases hb with ⟨_, rfl, rfl⟩ | ⟨h1, _⟩
      · exact h
      · omega
    · refine ⟨_, _, .inr ⟨h0, rfl, rfl⟩, fun q hq => ?_⟩
      obtain ⟨bv, bm, hb, h⟩ := key q hq
      rcases hb with ⟨h1, _⟩ | ⟨_, rfl, rfl⟩
      · omega
      · exact h
  obtain ⟨bv', bm', hb, hk⟩ := uniq
  refine ⟨bv', bm', hb, ?_⟩
  intro d
  induction d with
  | zero =>
    intro y q hd hq
    obtain ⟨q, rfl⟩ : ∃ n, q = n + 1 := ⟨q - 1, by omega⟩
    have hyM : y = min S R := by omega
    have hend := F_end g.cs R W S V
    rw [← hF, ← hyM] at hend
    rw [hend]
    have h := hk q (by omega)
    have hmn : min (S : Int) (R : Int) = (y : Nat) := by omega
    rw [hFl] at h
    simp only [rzM, hFl] at h ⊢
    generalize S * V = N at *
    clear hF hend
    simp (maxSteps := 400000) -implicitDefEqProofs [L_spec_l3Resize, retK_eq, cutK_eq, s_spec_l1Min, hmn, h]
  | succ d ih =>
    intro y q hd hq
    obtain ⟨q, rfl⟩ : ∃ n, q = n + 1 := ⟨q - 1, by omega⟩
    have h := ih (y + 1) q (by omega) (by omega)
    have e1 : (y + 1) * V ≤ S * V := Nat.mul_le_mul_right _ (by omega)
    have e2 : (y + 1) * W ≤ R * W := Nat.mul_le_mul_right _ (by omega)
    have e3 : (y + 1) * V = y * V + V := Nat.succ_mul _ _
    have e4 : (y + 1) * W = y * W + W := Nat.succ_mul _ _
    have hrow := F_row g.cs R W S V y (by omega) (by omega)
    rw [← hF] at hrow
    obtain ⟨M, hM⟩ : ∃ M, M = min S R := ⟨_, rfl⟩
    have hmn : min (S : Int) (R : Int) = (M : Nat) := by omega
    have hlt : y < M := by omega
    obtain ⟨r1, r2, r3⟩ := row_n3 W y hW (by omega)
    obtain ⟨u1, u2, u3⟩ := row_n3 V y hV (by omega)
    have hro := fun rest => s_spec_l3RowOf ⟨R, W, g.cs, g.bk⟩ y (y * W) W r1 r2 r3 (by simp only; omega) (by have : R * W ≤ 6 * 12 := Nat.mul_le_mul hR hW; simp only; omega) rest
    have hfit := s_spec_l3Fit ((g.cs.drop (y * W)).take W) V hV
    have hrl : ((g.cs.drop (y * W)).take W).length = W := by simp; omega
    have hfl := rowFit_len ((g.cs.drop (y * W)).take W) V
    have hol : (F.take (y * V) ++ (List.replicate (S * V) bl0).drop (y * V)).length = S * V := by simp only [List.length_append, List.length_take, List.length_drop, List.length_replicate, hFl]; omega
    have hput := put_row3 F (List.replicate (S * V) bl0) (y * V) V (by simp [hFl]) (by simp; omega)
    rw [hrow] at hput
    have hrn := s_spec_l3RowN S V y (F.take (y * V) ++ (List.replicate (S * V) bl0).drop (y * V)) (rowFit ((g.cs.drop (y * W)).take W) V) (y * V) V u1 u2 u3 (by rw [hol]; omega) (by omega) hfl
    rw [hput, hol, ← e3] at hrn
    have hol2 : (F.take ((y + 1) * V) ++ (List.replicate (S * V) bl0).drop ((y + 1) * V)).length = S * V := by simp only [List.length_append, List.length_take, List.length_drop, List.length_replicate, hFl]; omega
    simp only [rzM, hol, hol2] at h ⊢
    simp only at hro
    generalize F.take ((y + 1) * V) ++ (List.replicate (S * V) bl0).drop ((y + 1) * V) = o2 at *
    generalize F.take (y * V) ++ (List.replicate (S * V) bl0).drop (y * V) = o1 at *
    generalize rowFit ((g.cs.drop (y * W)).take W) V = fit at *
    have hfz := fun j m => fzO_own eC j m ((g.cs.drop (y * W)).take W)
    rw [hrl] at hfz
    generalize (g.cs.drop (y * W)).take W = row at *
    generalize S * V = N at *
    clear hF
    simp at h
    simp (maxSteps := 400000) -implicitDefEqProofs [L_spec_l3Resize, retK_eq, cutK_eq, s_spec_l1Min, hmn, hlt, r2, hro, hfz, hfit, hrn, h]
theorem s_spec_l3Resize (g : GridT) (rows v : Int) (hf : faultG g = 0) (ho : szB rows v = true) : ∃ bv bm, ((reB g v = [] ∧ bv = .slice none 0 0 ∧ bm = []) ∨ (reB g v ≠ [] ∧ bv = slO 1 (reB g v).length ∧ bm = [ownB eC (reB g v)])) ∧ X_spec_l3Resize [gridV g, .int .i64 rows, .int .i64 v] [] = some (.agg #[.int .i64 rows, .int .i64 v, slO 0 (reG g rows v).cs.length, bv], ownB eC (reG g rows v).cs :: bm) := by
  obtain ⟨R, W, S, V, e, hR, hW, rfl, rfl, R1, R6, W2, W12, S1, S6, V2, V12, hcs, hbk, he, hdiv⟩ := re_facts hf ho
  have m3 : S * V ≤ 6 * 12 := Nat.mul_le_mul S6 V12
  have m6 := re_le (R := R) (S := S) (V := V)
  have hl := reC_len (S := S) (V := V) hR hW
  have hlF : (reG g S V).cs.length = S * V := by simp [reG, hl]; omega
  have eF : (reG g S V).cs = (widN W V R g.cs ++ List.replicate ((S - R) * V) bl0).take (S * V) := by simp [reG, reC, hR, hW]
  have eb : reB g V = widN W V e g.bk := by simp [reB, hW, hdiv]
  have hlb : (reB g V).length = e * V := by rw [eb, widN_len]
  obtain ⟨bv, bm, hb, h⟩ := l_resize0 R W S V e g R6 S6 W2 W12 V2 V12 hcs hbk he (reG g S V).cs eF
  have h := h (min S R) 0 QQ (by omega) (by unfold QQ; omega)
  have hn := s_spec_l3New S V (by omega)
  refine ⟨bv, bm, ?_, ?_⟩
  · rcases hb with ⟨h1, h2, h3⟩ | ⟨h1, h2, h3⟩
    · exact .inl ⟨List.eq_nil_of_length_eq_zero (by rw [hlb, h1]; simp), h2, h3⟩
    · refine .inr ⟨fun hc => ?_, by rw [hlb]; exact h2, by rw [eb]; exact h3⟩
      rw [hc] at hlb
      have : 1 * 2 ≤ e * V := Nat.mul_le_mul h1 V2
      simp at hlb
      omega
  · rw [hlF]
    simp only [Nat.zero_mul, List.take_zero, List.nil_append, List.drop_zero, rzM, List.length_replicate] at h
    generalize (reG g S V).cs = F at *
    generalize S * V = N at *
    clear eF
    simp at h
    simp (maxSteps := 400000) -implicitDefEqProofs [X_spec_l3Resize, retK_eq, cutK_eq, hn, hR, hW, h]
end Go.Ab
