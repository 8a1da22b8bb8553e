/- What the functions of the program answer, for all arguments that the theorems name as conditions. -/
import Derived.Test.YtelkckbbelillaaS5G25c
import Derived.Test.YtelkckbbelillaaS5G25b
import Derived.Test.YtelkckbbelillaaS5G19
import Derived.Test.YtelkckbbelillaaS5G30
namespace Go.Ab
set_option linter.unusedSimpArgs false
set_option linter.unusedVariables false
set_option maxHeartbeats 8000000

/-! ## Rows of another width, by the specification -/
theorem fit_eq (row : List CellT) (v : Nat) : row.take (min row.length v) ++ (List.replicate v bl0).drop (min row.length v) = rowFit row v := by
  unfold rowFit
  rw [List.take_append, List.drop_replicate, List.take_replicate]
  rcases Nat.le_total row.length v with h | h
  · rw [Nat.min_eq_left h, List.take_of_length_le (Nat.le_refl _), List.take_of_length_le h, Nat.min_self]
  · rw [Nat.min_eq_right h, show v - v = 0 by omega, show v - row.length = 0 by omega]
    simp
theorem s_spec_l3Fit (row : List CellT) (v : Nat) (hv : v ≤ 12) : X_spec_l3Fit [frS eC row, .int .i64 v] [] = some (slO 0 v, [ownB eC (rowFit row v)]) := by
  have hb := s_spec_l3Blanks v 0 (by omega)
  have hc := cpL_ro eC (m := [ownB eC (List.replicate v bl0)]) (sz := 2) (n := 0) (a := 0) (dl := v) (c := v) (l := List.replicate v bl0) (l2 := row) rfl rfl (by simp)
  simp only [List.take_zero, List.nil_append, Nat.zero_add, fit_eq, Nat.zero_mul, List.set_cons_zero] at hc
  generalize rowFit row v = fit at *
  simp -implicitDefEqProofs [X_spec_l3Fit, retK_eq, hb, hc]
theorem s_spec_l3RowN (r w y : Int) (cs row : List CellT) (A W : Nat) (h1 : IntKind.i64.wrap (y * w) = (A : Nat)) (h2 : IntKind.i64.wrap (y + 1) = y + 1) (h3 : IntKind.i64.wrap ((y + 1) * w) = ((A + W : Nat) : Int)) (hl : A + W ≤ cs.length) (hW : 0 < W) (hr : row.length = W) : X_spec_l3Row [ptr 0, .int .i64 y, slO 1 W] [blk [.int .i64 r, .int .i64 w, slO 2 cs.length, .slice none 0 0], ownB eC row, ownB eC cs] = some (.tuple #[], [blk [.int .i64 r, .int .i64 w, slO 2 cs.length, .slice none 0 0], ownB eC row, ownB eC (cs.take A ++ row ++ cs.drop (A + W))]) := by
  have s1 := sl_own (m := [blk [.int .i64 r, .int .i64 w, slO 2 cs.length, .slice none 0 0], ownB eC row, ownB eC cs]) (sz := 2) (n := 2) (o := 0) (len := cs.length) (c := cs.length) (lo := some (.int .i64 (A : Nat))) (hi := some (.int .i64 (A + W : Nat))) rfl (bnd_nat _ _ _) (bnd_nat _ _ _) (by omega) hl (by omega)
  have hc := cpL_own eC (m := [blk [.int .i64 r, .int .i64 w, slO 2 cs.length, .slice none 0 0], ownB eC row, ownB eC cs]) (sz := 2) (n := 2) (n2 := 1) (a := A) (a2 := 0) (dl := W) (sl := W) (c := cs.length - A) (c2 := W) (l := cs) (l2 := row) rfl rfl rfl hl (by omega)
  simp only [Nat.add_sub_cancel_left, Nat.zero_add] at s1
  simp only [List.drop_zero, Nat.min_self, List.take_of_length_le (Nat.le_of_eq hr), Nat.zero_mul] at hc
  generalize cs.take A ++ row ++ cs.drop (A + W) = cs' at *
  generalize A + W = Q at *
  simp at hc
  simp (maxSteps := 400000) -implicitDefEqProofs [X_spec_l3Row, retK_eq, h1, h2, h3, s1, hc]
theorem row_n3 (W y : Nat) (hw : W ≤ 12) (hy : y ≤ 7) : IntKind.i64.wrap ((y : Int) * W) = ((y * W : Nat) : Int) ∧ IntKind.i64.wrap ((y : Int) + 1) = (y : Int) + 1 ∧ IntKind.i64.wrap (((y : Int) + 1) * W) = ((y * W + W : Nat) : Int) := by
  have m1 : y * W ≤ 7 * 12 := Nat.mul_le_mul hy hw
  have e1 : ((y : Int) * W) = ((y * W : Nat) : Int) := by simp
  have e2 : (((y : Int) + 1) * W) = ((y * W + W : Nat) : Int) := by rw [Int.add_mul, Int.one_mul, e1]; simp
  rw [e1, e2]
  exact ⟨wrap_i64 (by omega) (by omega), wrap_i64 (by omega) (by omega), wrap_i64 (by omega) (by omega)⟩
abbrev gz : Blk := blk [.int .i64 0, .int .i64 0, .slice none 0 0, .slice none 0 0]
abbrev rzM (R W : Nat) (g : GridT) (S V : Nat) (out : List CellT) : Mem := [blk [.int .i64 R, .int .i64 W, frS eC g.cs, frS eC g.bk], gz, blk [.int .i64 S, .int .i64 V, slO 3 out.length, .slice none 0 0], ownB eC out]
/-- The rows behind. -/
theorem l_resize1 (R W S V e : Nat) (g : GridT) (F : List CellT) (hW2 : 2 ≤ W) (hW : W ≤ 12) (hV2 : 2 ≤ V) (hV : V ≤ 12) (hbk : g.bk.length = e * W) (he : e ≤ 5) :
    ∀ (d i q : Nat) (bv : Value) (bm : Mem), d + i = e → d < q → ((i = 0 ∧ bv = .slice none 0 0 ∧ bm = []) ∨ (0 < i ∧ bv = slO 4 (i * V) ∧ bm = [ownB eC (widN W V i (g.bk.take (i * W)))])) → ∃ bv' bm', ((e = 0 ∧ bv' = .slice none 0 0 ∧ bm' = []) ∨ (0 < e ∧ bv' = slO 1 (e * V) ∧ bm' = [ownB eC (widN W V e g.bk)])) ∧ L_spec_l3Resize 0 q 1 [.int .i64 V, ptr 0, ptr 1, ptr 2, .int .i64 (i * W : Nat)] (blk [.int .i64 R, .int .i64 W, frS eC g.cs, frS eC g.bk] :: gz :: blk [.int .i64 S, .int .i64 V, slO 3 F.length, bv] :: ownB eC F :: bm) = some (.agg #[.int .i64 S, .int .i64 V, slO 0 F.length, bv'], ownB eC F :: bm') := by
  have wid_snoc : ∀ (k : Nat) (l r : List CellT), l.length = k * W → widN W V (k + 1) (l ++ r) = widN W V k l ++ rowFit (r.take W) V := by
    intro k
    induction k with
    | zero =>
      intro l r hl
      have : l = [] := List.eq_nil_of_length_eq_zero (by simpa using hl)
      subst this
      simp [widN]
    | succ k ih =>
      intro l r hl
      rw [Nat.succ_mul] at hl
      show rowFit ((l ++ r).take W) V ++ widN W V (k + 1) ((l ++ r).drop W) = (rowFit (l.take W) V ++ widN W V k (l.drop W)) ++ rowFit (r.take W) V
      rw [List.append_assoc, ← ih (l.drop W) r (by rw [List.length_drop]; omega), List.take_append_of_le_length (by omega), List.drop_append_of_le_length (by omega)]
  intro d
  induction d with
  | zero =>
    intro i q bv bm hd hq hb
    obtain ⟨q, rfl⟩ : ∃ n, q = n + 1 := ⟨q - 1, by omega⟩
    obtain rfl : i = e := by omega
    have hlt : ¬ ((i * W : Nat) : Int) < (g.bk.length : Int) := by omega
    have hlt' : ¬ i * W < g.bk.length := by omega
    have ht : g.bk.take (i * W) = g.bk := List.take_of_length_le (by omega)
    rw [ht] at hb
    rcases hb with ⟨h0, rfl, rfl⟩ | ⟨h0, rfl, rfl⟩
    · refine ⟨_, _, .inl ⟨h0, rfl, rfl⟩, ?_⟩
      generalize i * W = iW at *
      simp (maxSteps := 400000) -implicitDefEqProofs [L_spec_l3Resize, retK_eq, hlt, hlt']
    · refine ⟨_, _, .inr ⟨h0, rfl, rfl⟩, ?_⟩
      generalize i * W = iW at *
      generalize i * V = iV at *
      generalize widN W V i g.bk = wb at *
      simp (maxSteps := 400000) -implicitDefEqProofs [L_spec_l3Resize, retK_eq, hlt, hlt']
  | succ d ih =>
    intro i q bv bm hd hq hb
    obtain ⟨q, rfl⟩ : ∃ n, q = n + 1 := ⟨q - 1, by omega⟩
    have e1 : (i + 1) * W = i * W + W := Nat.succ_mul _ _
    have e2 : (i + 1) * W ≤ e * W := Nat.mul_le_mul_right _ (by omega)
    have e3 : (i + 1) * V = i * V + V := Nat.succ_mul _ _
    have m1 : i * W ≤ 5 * 12 := Nat.mul_le_mul (by omega) hW
    have m2 : i * V ≤ 5 * 12 := Nat.mul_le_mul (by omega) hV
    have hlt : ((i * W : Nat) : Int) < (g.bk.length : Int) := by omega
    have hlt' : i * W < g.bk.length := by omega
    have hw : IntKind.i64.wrap (((i * W : Nat) : Int) + W) = ((i * W + W : Nat) : Int) := by rw [← Int.natCast_add, wrap_i64 (by omega) (by omega)]
    have s1 := fun m => sl_frS eC m (sz := 2) rfl (l := g.bk) (lo := some (.int .i64 (i * W : Nat))) (hi := some (.int .i64 (i * W + W : Nat))) (bnd_nat _ _ _) (bnd_nat _ _ _) (by omega) (by omega)
    rw [Nat.add_sub_cancel_left] at s1
    have hfit := s_spec_l3Fit ((g.bk.drop (i * W)).take W) V hV
    have hfl := rowFit_len ((g.bk.drop (i * W)).take W) V
    have hws : widN W V (i + 1) (g.bk.take ((i + 1) * W)) = widN W V i (g.bk.take (i * W)) ++ rowFit ((g.bk.drop (i * W)).take W) V := by
      rw [e1, List.take_add, wid_snoc _ _ _ (by simp; omega), List.take_take, Nat.min_self]
    obtain ⟨bv', bm', hb', h⟩ := ih (i + 1) q (slO 4 ((i + 1) * V)) [ownB eC (widN W V (i + 1) (g.bk.take ((i + 1) * W)))] (by omega) (by omega) (.inr ⟨by omega, rfl, rfl⟩)
    refine ⟨bv', bm', hb', ?_⟩
    rw [hws, e1, e3] at h
    have hwl := widN_len W V i (g.bk.take (i * W))
    rcases hb with ⟨h0, rfl, rfl⟩ | ⟨h0, rfl, rfl⟩
    · subst h0
      simp only [Nat.zero_mul, Nat.zero_add, widN, List.nil_append, List.drop_zero] at *
      have p1 : ∀ m k, apL m 2 16 (.slice none 0 0) (.slice (some ⟨k, 0, none⟩) V V) = bo (fun cs => some (.slice (some ⟨m.length, 0, none⟩) V V, m ++ [⟨cs, 2, true, true⟩])) (rdM m[k]? 0 (V * 2)) := by
        intro m k
        show (ob (rd m k 0 (V * 2)) fun cs => appendIn m 2 16 (.slice none 0 0) cs V) = _
        rw [rd_rdM]
        cases rdM m[k]? 0 (V * 2) with
        | none => rfl
        | some cs =>
          rw [ob_some, bo_some]
          unfold appendIn
          rw [if_neg (by omega), if_pos ⟨by omega, by omega⟩]
          rfl
      have p2 := rdM_own eC (rowFit (g.bk.take W) V) (V * 2) (by rw [hfl]; rfl)
      generalize rowFit (g.bk.take W) V = fit at *
      simp at hw h s1
      have hw' : IntKind.i64.wrap (W : Int) = W := wrap_i64 (by omega) (by omega)
      simp (maxSteps := 400000) -implicitDefEqProofs [L_spec_l3Resize, retK_eq, cutK_eq, hlt, hlt', hw', s1, hfit, p1, p2, h]
    · have p1 := fun m n k c => apL_sl (m := m) (sz := 2) (bytes := 16) (n := n) (o := 0) (len := i * V) (c := c) (n2 := k) (o2 := 0) (len2 := V) (c2 := V) (by omega) (by omega)
      have p2 := rdM_own eC (rowFit ((g.bk.drop (i * W)).take W) V) (V * 2) (by rw [hfl]; rfl)
      have p3 := fun m n cs k => apB_own (E := eC) (m := m) (l := widN W V i (g.bk.take (i * W))) (n := n) (sz := 2) (cs := cs) (k := k) rfl
      rw [hwl] at p3
      generalize rowFit ((g.bk.drop (i * W)).take W) V = fit at *
      generalize widN W V i (g.bk.take (i * W)) = wb at *
      generalize i * W + W = iW1 at *
      generalize i * W = iW at *
      generalize i * V = iV at *
      simp (maxSteps := 400000) -implicitDefEqProofs [L_spec_l3Resize, retK_eq, cutK_eq, hlt, hlt', hw, s1, hfit, p1, p2, p3, h]
end Go.Ab
