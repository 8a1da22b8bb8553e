/- What the functions of the program answer, for all arguments that the theorems name as conditions. -/
import Derived.Test.YtglkdfidjalkbaaS7G26
namespace Go.Ab
set_option linter.unusedSimpArgs false
set_option linter.unusedVariables false
set_option maxHeartbeats 8000000

/-! ## Scrolling by the specification -/
abbrev scS (g : GridT) (W T B : Nat) (s z : Int) : List CellT := shL g.cs (T * W) ((B + 1) * W - T * W) s ⟨32, z⟩
abbrev gMem (g : GridT) (cs bk : List CellT) : Mem := [blk [.int .i64 g.r, .int .i64 g.w, slO 1 g.cs.length, slO 2 bk.length], ownB eC cs, ownB eC bk]
theorem s_scroll_up (g : GridT) (z : Int) (W T B : Nat) (hW : g.w = W) (hw : W ≤ 12) (h2 : 2 ≤ W) (hT : T ≤ B) (hB : B ≤ 5) (hl : (B + 1) * W ≤ g.cs.length) (hs : g.cs.length ≤ 72) (hbk : g.bk.length ≤ 60) (h0 : 0 < T) : X_spec_l3Scroll [ptr 0, .int .i64 T, .int .i64 B, .bool true, .int .i64 z] (gMem g g.cs g.bk) = some (.tuple #[], gMem g (scS g W T B (-(W : Int)) z) g.bk) := by
  have hTB : (T + 1) * W ≤ (B + 1) * W := Nat.mul_le_mul_right _ (by omega)
  have e1 : (T + 1) * W = T * W + W := Nat.succ_mul _ _
  have h := l_scroll_up g z W T B hW hw h2 hT hB hl hs hbk _ _ (.inl ⟨rfl, rfl⟩) (B - T) T QQ rfl (Nat.le_refl _) hT (by unfold QQ; omega)
  rw [shL_take _ _ _ _ _ (by omega), List.take_append_drop] at h
  simp only [scS]
  generalize shL g.cs (T * W) ((B + 1) * W - T * W) (-(W : Int)) ⟨32, z⟩ = S at *
  have hn : ¬ (T : Int) = 0 := by omega
  have hn' : ¬ T = 0 := by omega
  simp (maxSteps := 400000) -implicitDefEqProofs [X_spec_l3Scroll, retK_eq, cutK_eq, hn, hn', h]
theorem s_scroll_keep (g : GridT) (z : Int) (W B : Nat) (hW : g.w = W) (hw : W ≤ 12) (h2 : 2 ≤ W) (hB : B ≤ 5) (hl : (B + 1) * W ≤ g.cs.length) (hs : g.cs.length ≤ 72) (hbk : g.bk.length ≤ 60) : X_spec_l3Scroll [ptr 0, .int .i64 0, .int .i64 B, .bool true, .int .i64 z] (gMem g g.cs g.bk) = some (.tuple #[], [blk [.int .i64 g.r, .int .i64 g.w, slO 1 g.cs.length, slO 3 (kp1 g.bk (g.cs.take W) W).length], ownB eC (shL g.cs 0 ((B + 1) * W) (-(W : Int)) ⟨32, z⟩), deadC g.bk, ownB eC (kp1 g.bk (g.cs.take W) W)]) := by
  have e1 : (B + 1) * W = B * W + W := Nat.succ_mul _ _
  have hkl : (kp1 g.bk (g.cs.take W) W).length ≤ 60 := by
    unfold kp1
    split
    · simp; omega
    · rename_i hc
      simp at hc ⊢
      omega
  have h := l_scroll_up ⟨g.r, g.w, g.cs, kp1 g.bk (g.cs.take W) W⟩ z W 0 B hW hw h2 (by omega) hB hl hs hkl _ _ (.inr ⟨g.bk, rfl, rfl⟩) B 0 QQ rfl (by omega) (by omega) (by unfold QQ; omega)
  simp only [Nat.zero_mul, Nat.sub_zero, List.take_zero, List.drop_zero, List.nil_append] at h
  have hlen : (g.cs.take W).length = W := by simp; omega
  have hro := fun rest => s_spec_l3RowOf g 0 0 W (by simp [wrap_i64]) (by simp [wrap_i64]) (by simp [hW]; rw [wrap_i64 (by omega) (by omega)]) (by omega) (by omega) rest
  simp only [List.drop_zero] at hro
  have hk := s_spec_l3Keep g (g.cs.take W) W hW hw h2 hlen hbk
  generalize kp1 g.bk (g.cs.take W) W = k1 at *
  generalize g.cs.take W = row at *
  generalize shL g.cs 0 ((B + 1) * W) (-(W : Int)) ⟨32, z⟩ = S at *
  simp at h
  simp (maxSteps := 400000) -implicitDefEqProofs [X_spec_l3Scroll, retK_eq, cutK_eq, hro, hk, h]
theorem s_scroll_down (g : GridT) (z : Int) (W T B : Nat) (hW : g.w = W) (hw : W ≤ 12) (h2 : 2 ≤ W) (hT : T ≤ B) (hB : B ≤ 5) (hl : (B + 1) * W ≤ g.cs.length) (hs : g.cs.length ≤ 72) (hbk : g.bk.length ≤ 60) : X_spec_l3Scroll [ptr 0, .int .i64 T, .int .i64 B, .bool false, .int .i64 z] (gMem g g.cs g.bk) = some (.tuple #[], gMem g (scS g W T B (W : Int) z) g.bk) := by
  have hTB : (T + 1) * W ≤ (B + 1) * W := Nat.mul_le_mul_right _ (by omega)
  have e1 : (T + 1) * W = T * W + W := Nat.succ_mul _ _
  have e2 : (B + 1) * W = B * W + W := Nat.succ_mul _ _
  have hak : T * W + ((B + 1) * W - T * W) ≤ g.cs.length := by omega
  have h := l_scroll_down g z W T B hW hw h2 hT hB hl hs hbk _ _ (.inl ⟨rfl, rfl⟩) (B - T) QQ (by omega) (by unfold QQ; omega)
  rw [show T + (B - T) = B by omega] at h
  have hd := shL_drop g.cs (T * W) ((B + 1) * W - T * W) (W : Int) ⟨32, z⟩ hak
  rw [show T * W + ((B + 1) * W - T * W) = B * W + W by omega] at hd
  rw [hd, List.take_append_drop] at h
  simp only [scS]
  generalize shL g.cs (T * W) ((B + 1) * W - T * W) (W : Int) ⟨32, z⟩ = S at *
  simp (maxSteps := 400000) -implicitDefEqProofs [X_spec_l3Scroll, retK_eq, cutK_eq, h]
theorem keep_step (bk cs : List CellT) (W j e : Nat) (hbk : bk.length = e * W) (he : e ≤ 5) (h : j * W + W ≤ cs.length) : kp1 (keepL bk (cs.take (j * W)) (5 * W)) ((cs.drop (j * W)).take W) W = keepL bk (cs.take (j * W + W)) (5 * W) := by
  have hr : ((cs.drop (j * W)).take W).length = W := by simp; omega
  have ht : (cs.take (j * W)).length = j * W := by simp; omega
  have hX : (bk ++ cs.take (j * W)).length = (e + j) * W := by rw [List.length_append, ht, hbk, Nat.add_mul]
  have e1 : bk ++ cs.take (j * W + W) = (bk ++ cs.take (j * W)) ++ (cs.drop (j * W)).take W := by rw [List.take_add, List.append_assoc]
  unfold keepL
  rw [e1]
  generalize (cs.drop (j * W)).take W = row at *
  generalize bk ++ cs.take (j * W) = X at *
  unfold kp1
  rw [List.length_append, hr, List.length_drop, hX]
  rcases Nat.lt_or_ge (e + j) 5 with h5 | h5
  · have m : (e + j + 1) * W ≤ 5 * W := Nat.mul_le_mul_right _ (by omega)
    have m2 : (e + j + 1) * W = (e + j) * W + W := Nat.succ_mul _ _
    rw [if_neg (by omega), show (e + j) * W - 5 * W = 0 by omega, show (e + j) * W + W - 5 * W = 0 by omega, List.drop_zero, List.drop_zero]
  · have m : 5 * W ≤ (e + j) * W := Nat.mul_le_mul_right _ h5
    rcases Nat.eq_zero_or_pos W with h0 | h0
    · subst h0
      simp at hX hr
      simp [hX, hr]
    · rw [if_pos (by omega), ← List.drop_append_of_le_length (by omega), List.drop_drop]
      congr 1
      omega
theorem first_row (l : List CellT) (K W P : Nat) (z : CellT) (h : K ≤ l.length) (h1 : P + W ≤ K) : (shL l 0 K (-(P : Int)) z).take W = (l.drop P).take W := by
  have hl := shL_len l 0 K (-(P : Int)) z (by omega)
  refine ext_gt (by simp [hl]; omega) fun k hk => ?_
  rw [List.length_take, hl] at hk
  rw [gt_part _ _ _ _ (by omega) (by omega), gt_take _ _ _ (by omega), shL_gt _ _ _ _ _ (by omega) _ (by omega), if_pos (by omega), if_pos (by omega)]
  congr 1
  omega
theorem l_many_stay (g : GridT) (z s : Int) (W T B N : Nat) (u : Bool) (hak : T * W + ((B + 1) * W - T * W) ≤ g.cs.length) (hN : N ≤ 100)
    (hst : ∀ cs : List CellT, cs.length = g.cs.length → X_spec_l3Scroll [ptr 0, .int .i64 T, .int .i64 B, .bool u, .int .i64 z] (gMem g cs g.bk) = some (.tuple #[], gMem g (shL cs (T * W) ((B + 1) * W - T * W) s ⟨32, z⟩) g.bk)) :
    ∀ (d j q : Nat), d + j = N → d < q → L_spec_l3Many 3 q 0 [ptr 0, .int .i64 T, .int .i64 B, .int .i64 d, .int .i64 z, .bool u] (gMem g (scS g W T B (j * s) z) g.bk) = some (.tuple #[], gMem g (scS g W T B (N * s) z) g.bk) := by
  intro d
  induction d with
  | zero =>
    intro j q hd hq
    obtain ⟨q, rfl⟩ : ∃ n, q = n + 1 := ⟨q - 1, by omega⟩
    obtain rfl : j = N := by omega
    simp only [scS]
    generalize shL g.cs (T * W) ((B + 1) * W - T * W) (j * s) ⟨32, z⟩ = S at *
    simp (maxSteps := 400000) -implicitDefEqProofs [L_spec_l3Many, retK_eq]
  | succ d ih =>
    intro j q hd hq
    obtain ⟨q, rfl⟩ : ∃ n, q = n + 1 := ⟨q - 1, by omega⟩
    have h := ih (j + 1) q (by omega) (by omega)
    have hs := hst (scS g W T B (j * s) z) (shL_len _ _ _ _ _ hak)
    have e : ((j + 1 : Nat) : Int) * s = (j : Int) * s + s := by rw [Int.natCast_add, Int.add_mul]; simp
    have hsg : (0 ≤ (j : Int) * s ∧ 0 ≤ s) ∨ ((j : Int) * s ≤ 0 ∧ s ≤ 0) := by
      rcases Int.le_total 0 s with h | h
      · exact .inl ⟨Int.mul_nonneg (by omega) h, h⟩
      · exact .inr ⟨Int.mul_nonpos_of_nonneg_of_nonpos (by omega) h, h⟩
    rw [e] at h
    simp only [scS] at h hs ⊢
    rw [shL_two _ _ _ _ _ _ hak hsg] at hs
    generalize shL g.cs (T * W) ((B + 1) * W - T * W) ((j : Int) * s + s) ⟨32, z⟩ = S1 at *
    generalize shL g.cs (T * W) ((B + 1) * W - T * W) ((j : Int) * s) ⟨32, z⟩ = S0 at *
    generalize shL g.cs (T * W) ((B + 1) * W - T * W) ((N : Int) * s) ⟨32, z⟩ = S at *
    have hd0 : (0 : Int) < (d : Int) + 1 := by omega
    have hw : IntKind.i64.wrap (d : Int) = d := wrap_i64 (by omega) (by omega)
    simp (maxSteps := 400000) -implicitDefEqProofs [L_spec_l3Many, retK_eq, cutK_eq, hd0, hw, hs, h]
theorem l_many_keep (g : GridT) (z : Int) (W B N e : Nat) (hW : g.w = W) (hw : W ≤ 12) (h2 : 2 ≤ W) (hB : B ≤ 5) (hl : (B + 1) * W ≤ g.cs.length) (hs : g.cs.length ≤ 72) (hbk : g.bk.length = e * W) (he : e ≤ 5) (hN : N ≤ B + 1) :
    ∀ (d j q : Nat) (bv : Value) (bm : Mem), d + j = N → d < q → BK2 (keepL g.bk (g.cs.take (j * W)) (5 * W)) bv bm → ∃ bv' bm', BK2 (keepL g.bk (g.cs.take (N * W)) (5 * W)) bv' bm' ∧ L_spec_l3Many 3 q 0 [ptr 0, .int .i64 0, .int .i64 B, .int .i64 d, .int .i64 z, .bool true] (blk [.int .i64 g.r, .int .i64 g.w, slO 1 g.cs.length, bv] :: ownB eC (shL g.cs 0 ((B + 1) * W) (-((j * W : Nat) : Int)) ⟨32, z⟩) :: bm) = some (.tuple #[], blk [.int .i64 g.r, .int .i64 g.w, slO 1 g.cs.length, bv'] :: ownB eC (shL g.cs 0 ((B + 1) * W) (-((N * W : Nat) : Int)) ⟨32, z⟩) :: bm') := by
  intro d
  induction d with
  | zero =>
    intro j q bv bm hd hq hb
    obtain ⟨q, rfl⟩ : ∃ n, q = n + 1 := ⟨q - 1, by omega⟩
    obtain rfl : j = N := by omega
    refine ⟨bv, bm, hb, ?_⟩
    generalize shL g.cs 0 ((B + 1) * W) (-((j * W : Nat) : Int)) ⟨32, z⟩ = S at *
    generalize keepL g.bk (g.cs.take (j * W)) (5 * W) = kb at *
    rcases hb with ⟨rfl, rfl⟩ | ⟨c, rfl, rfl⟩ <;> simp (maxSteps := 400000) -implicitDefEqProofs [L_spec_l3Many, retK_eq]
  | succ d ih =>
    intro j q bv bm hd hq hb
    obtain ⟨q, rfl⟩ : ∃ n, q = n + 1 := ⟨q - 1, by omega⟩
    have e3 : (j + 1) * W = j * W + W := Nat.succ_mul _ _
    have e4 : (j + 1) * W ≤ (B + 1) * W := Nat.mul_le_mul_right _ (by omega)
    have hk5 : 5 * W ≤ 60 := by omega
    have hkb : (keepL g.bk (g.cs.take (j * W)) (5 * W)).length ≤ 60 := by unfold keepL; simp; omega
    have hS := shL_len g.cs 0 ((B + 1) * W) (-((j * W : Nat) : Int)) ⟨32, z⟩ (by omega)
    have hst := s_scroll_keep ⟨g.r, g.w, shL g.cs 0 ((B + 1) * W) (-((j * W : Nat) : Int)) ⟨32, z⟩, keepL g.bk (g.cs.take (j * W)) (5 * W)⟩ z W B hW hw h2 hB (by simp only [hS]; exact hl) (by simp only [hS]; exact hs) hkb
    simp only [gMem, hS] at hst
    rw [first_row _ _ _ _ _ hl (by omega), keep_step _ _ _ _ e hbk he (by omega), shL_two _ _ _ _ _ _ (by omega) (.inr ⟨by omega, by omega⟩), show -((j * W : Nat) : Int) + -(W : Int) = -(((j + 1) * W : Nat) : Int) by rw [e3]; omega, ← e3] at hst
    have hd0 : (0 : Int) < (d : Int) + 1 := by omega
    have hwd : IntKind.i64.wrap (d : Int) = d := wrap_i64 (by omega) (by omega)
    have key : ∀ bv1 bm1, BK2 (keepL g.bk (g.cs.take ((j + 1) * W)) (5 * W)) bv1 bm1 → ∃ bv' bm', BK2 (keepL g.bk (g.cs.take (N * W)) (5 * W)) bv' bm' ∧ L_spec_l3Many 3 q 0 [ptr 0, .int .i64 0, .int .i64 B, .int .i64 d, .int .i64 z, .bool true] (blk [.int .i64 g.r, .int .i64 g.w, slO 1 g.cs.length, bv1] :: ownB eC (shL g.cs 0 ((B + 1) * W) (-(((j + 1) * W : Nat) : Int)) ⟨32, z⟩) :: bm1) = some (.tuple #[], blk [.int .i64 g.r, .int .i64 g.w, slO 1 g.cs.length, bv'] :: ownB eC (shL g.cs 0 ((B + 1) * W) (-((N * W : Nat) : Int)) ⟨32, z⟩) :: bm') := fun bv1 bm1 hb1 => ih (j + 1) q bv1 bm1 (by omega) (by omega) hb1
    generalize shL g.cs 0 ((B + 1) * W) (-(((j + 1) * W : Nat) : Int)) ⟨32, z⟩ = S1 at *
    generalize shL g.cs 0 ((B + 1) * W) (-((j * W : Nat) : Int)) ⟨32, z⟩ = S0 at *
    generalize shL g.cs 0 ((B + 1) * W) (-((N * W : Nat) : Int)) ⟨32, z⟩ = S at *
    generalize keepL g.bk (g.cs.take ((j + 1) * W)) (5 * W) = k1 at *
    generalize keepL g.bk (g.cs.take (j * W)) (5 * W) = k0 at *
    generalize keepL g.bk (g.cs.take (N * W)) (5 * W) = kN at *
    rcases hb with ⟨rfl, rfl⟩ | ⟨c, rfl, rfl⟩
    · obtain ⟨bv', bm', hb', h⟩ := key _ _ (.inr ⟨k0, rfl, rfl⟩)
      refine ⟨bv', bm', hb', ?_⟩
      simp (maxSteps := 400000) -implicitDefEqProofs [L_spec_l3Many, retK_eq, cutK_eq, hd0, hwd, hst, h]
    · obtain ⟨bv', bm', hb', h⟩ := key _ _ (.inr ⟨c, rfl, rfl⟩)
      refine ⟨bv', bm', hb', ?_⟩
      simp (maxSteps := 400000) -implicitDefEqProofs [L_spec_l3Many, retK_eq, cutK_eq, hd0, hwd, hst, h]
end Go.Ab
