/- What the functions of the program answer, for all arguments that the theorems name as conditions. -/
import Derived.Test.YtglkdfidjalkbaaS7G9b
import Derived.Test.YtglkdfidjalkbaaS7G27
namespace Go.Ab
set_option linter.unusedSimpArgs false
set_option linter.unusedVariables false
set_option maxHeartbeats 8000000

theorem scS_eq (g : GridT) (z n s : Int) (W T B N : Nat) (hTB : T ≤ B) (hak : T * W + ((B + 1) * W - T * W) ≤ g.cs.length) (hN : (N : Int) = min (max n (-n)) ((B : Int) - T + 1)) (hs : (0 < n ∧ s = -(W : Int)) ∨ (n ≤ 0 ∧ s = (W : Int))) : scS g W T B (N * s) z = shL g.cs (T * W) ((B + 1) * W - T * W) (-n * W) ⟨32, z⟩ := by
  simp only [scS]
  have hK : (B + 1) * W - T * W = (B + 1 - T) * W := (Nat.sub_mul _ _ _).symm
  by_cases h : (N : Int) = max n (-n)
  · congr 1
    rcases hs with ⟨h1, rfl⟩ | ⟨h1, rfl⟩
    · rw [show (N : Int) = n by omega, Int.mul_neg, Int.neg_mul]
    · rw [show (N : Int) = -n by omega]
  · have hn : N = B + 1 - T := by omega
    have hKN : (((B + 1) * W - T * W : Nat) : Int) = (N : Int) * W := by rw [hK, hn]; simp
    refine shL_far _ _ _ _ _ _ hak ?_
    rcases hs with ⟨h1, rfl⟩ | ⟨h1, rfl⟩
    · right
      have : (N : Int) * W ≤ n * W := Int.mul_le_mul_of_nonneg_right (by omega) (by omega)
      rw [hKN, Int.mul_neg, Int.neg_mul]
      omega
    · left
      have : (N : Int) * W ≤ -n * W := Int.mul_le_mul_of_nonneg_right (by omega) (by omega)
      rw [hKN]
      omega
theorem s_spec_l3Many (g : GridT) (t b n z : Int) (hf : faultG g = 0) (ho : okSc g t b n z = true) : ∃ bv bm, BK2 (scG g t b n z).bk bv bm ∧ X_spec_l3Many [ptr 0, .int .i64 t, .int .i64 b, .int .i64 n, .int .i64 z] (gMem g g.cs g.bk) = some (.tuple #[], blk [.int .i64 g.r, .int .i64 g.w, slO 1 g.cs.length, bv] :: ownB eC (scG g t b n z).cs :: bm) := by
  obtain ⟨A, K, W, hW, hA, hB, K0, l1, l2, l3, W1, W2, n0, n1, t0, t1, b1, r6, e1, e2, e3, e4, e5, e6, e7, e8, e9, _⟩ := sc_facts hf ho
  obtain ⟨q1, q2, q3, q4, q5, q6, q7, q8, q9, q10, _⟩ := grid_facts hf
  obtain ⟨T, rfl⟩ := Int.eq_ofNat_of_zero_le t0
  obtain ⟨B, rfl⟩ := Int.eq_ofNat_of_zero_le (show 0 ≤ b by omega)
  have hTB : T ≤ B := by omega
  have aT : A = T * W := by rw [hW] at hA; exact_mod_cast hA.symm
  have aB : A + K = (B + 1) * W := by rw [hW] at hB; exact_mod_cast hB.symm
  have hTW : T * W ≤ (B + 1) * W := Nat.mul_le_mul_right _ (by omega)
  have hK : K = (B + 1) * W - T * W := by omega
  have hak : T * W + ((B + 1) * W - T * W) ≤ g.cs.length := by omega
  have hcl : (B + 1) * W ≤ g.cs.length := by omega
  have ecs : (scG g T B n z).cs = shL g.cs (T * W) ((B + 1) * W - T * W) (-n * W) ⟨32, z⟩ := by
    simp only [scG]
    rw [hA, hB, hW, show (A : Int).toNat = T * W by omega, show (((A + K : Nat) : Int) - (A : Int)).toNat = (B + 1) * W - T * W by omega]
  obtain ⟨N, hN⟩ : ∃ N : Nat, (N : Int) = min (max n (-n)) ((B : Int) - T + 1) := ⟨(min (max n (-n)) ((B : Int) - T + 1)).toNat, by omega⟩
  have w1 : IntKind.i64.wrap ((B : Int) - T) = (B : Int) - T := wrap_i64 (by omega) (by omega)
  have w2 : IntKind.i64.wrap ((B : Int) - T + 1) = (B : Int) - T + 1 := wrap_i64 (by omega) (by omega)
  have hcs : ∀ cs : List CellT, cs.length = g.cs.length → gMem ⟨g.r, g.w, cs, g.bk⟩ cs g.bk = gMem g cs g.bk := fun cs h => by simp only [gMem, h]
  by_cases hpos : 0 < n
  · have hm : min n ((B : Int) - T + 1) = N := by omega
    have hneg : ¬ n < 0 := by omega
    by_cases h0 : T = 0
    · subst h0
      obtain ⟨e, he1, he2⟩ : ∃ e : Nat, g.bk.length = e * W ∧ e ≤ 5 := by
        rw [hW] at q9 q10
        have : (g.bk.length : Int).tmod W = ((g.bk.length % W : Nat) : Int) := rfl
        rw [this] at q10
        have q10' : g.bk.length % W = 0 := by omega
        have hd := Nat.div_add_mod g.bk.length W
        rw [q10', Nat.add_zero] at hd
        refine ⟨g.bk.length / W, by rw [Nat.mul_comm]; exact hd.symm, ?_⟩
        have : g.bk.length / W ≤ 5 := by
          apply Nat.div_le_of_le_mul
          rw [Nat.mul_comm]
          omega
        exact this
      have hk0 : keepL g.bk (g.cs.take (0 * W)) (5 * W) = g.bk := by
        unfold keepL
        rw [Nat.zero_mul, List.take_zero, List.append_nil, show g.bk.length - 5 * W = 0 by omega, List.drop_zero]
      have hz0 : shL g.cs 0 ((B + 1) * W) (-((0 * W : Nat) : Int)) ⟨32, z⟩ = g.cs := by
        rw [Nat.zero_mul]
        exact shL_zero _ _ _ _ (by omega)
      obtain ⟨bv, bm, hb, h⟩ := l_many_keep g z W B N e hW W1 W2 (by omega) hcl l2 he1 he2 (by omega) N 0 QQ (slO 2 g.bk.length) [ownB eC g.bk] (by omega) (by unfold QQ; omega) (by rw [hk0]; exact .inl ⟨rfl, rfl⟩)
      rw [hz0] at h
      have hsc := scS_eq g z n (-(W : Int)) W 0 B N (by omega) hak hN (.inl ⟨hpos, rfl⟩)
      simp only [scS, Nat.zero_mul, Nat.sub_zero] at hsc
      have hNW : (N : Int) * -(W : Int) = -((N * W : Nat) : Int) := by rw [Int.mul_neg]; simp
      rw [hNW] at hsc
      rw [hsc] at h
      have ecs2 : (scG g ((0 : Nat) : Int) B n z).cs = shL g.cs 0 ((B + 1) * W) (-n * W) ⟨32, z⟩ := by rw [ecs]; simp only [Nat.zero_mul, Nat.sub_zero]
      rw [← ecs2] at h
      have hbk : (scG g ((0 : Nat) : Int) B n z).bk = keepL g.bk (g.cs.take (N * W)) (5 * W) := by
        simp only [scG, scKp]
        rw [if_pos ⟨rfl, hpos⟩, hW]
        rw [show min n ((B : Int) + 1) = (N : Int) by omega, ← Int.natCast_mul, show ((N * W : Nat) : Int).toNat = N * W by omega, show (5 * (W : Int)).toNat = 5 * W by omega]
      rw [← hbk] at hb
      refine ⟨bv, bm, hb, ?_⟩
      generalize (scG g ((0 : Nat) : Int) B n z).cs = cs' at *
      simp at h hm w1 w2
      rcases hb with ⟨rfl, rfl⟩ | ⟨c, rfl, rfl⟩ <;> simp (maxSteps := 400000) -implicitDefEqProofs [X_spec_l3Many, retK_eq, cutK_eq, s_spec_l1Min, w1, w2, hm, hpos, hneg, h]
    · have hst : ∀ cs : List CellT, cs.length = g.cs.length → X_spec_l3Scroll [ptr 0, .int .i64 T, .int .i64 B, .bool true, .int .i64 z] (gMem g cs g.bk) = some (.tuple #[], gMem g (shL cs (T * W) ((B + 1) * W - T * W) (-(W : Int)) ⟨32, z⟩) g.bk) := by
        intro cs hc
        have := s_scroll_up ⟨g.r, g.w, cs, g.bk⟩ z W T B hW W1 W2 hTB (by omega) (by simp only [hc]; omega) (by simp only [hc]; omega) l3 (by omega)
        simp only [gMem, scS, hc] at this ⊢
        exact this
      have h := l_many_stay g z (-(W : Int)) W T B N true hak (by omega) hst N 0 QQ (by omega) (by unfold QQ; omega)
      have hz0 : scS g W T B (((0 : Nat) : Int) * -(W : Int)) z = g.cs := by
        simp only [scS]
        rw [show ((0 : Nat) : Int) * -(W : Int) = 0 by simp]
        exact shL_zero _ _ _ _ hak
      rw [hz0, scS_eq g z n (-(W : Int)) W T B N hTB hak hN (.inl ⟨hpos, rfl⟩), ← ecs] at h
      have hbk : (scG g T B n z).bk = g.bk := by simp only [scG]; rw [if_neg (by omega)]
      refine ⟨_, _, by rw [hbk]; exact .inl ⟨rfl, rfl⟩, ?_⟩
      generalize (scG g T B n z).cs = cs' at *
      simp (maxSteps := 400000) -implicitDefEqProofs [X_spec_l3Many, retK_eq, cutK_eq, s_spec_l1Min, w1, w2, hm, hpos, hneg, h]
  · have hst : ∀ cs : List CellT, cs.length = g.cs.length → X_spec_l3Scroll [ptr 0, .int .i64 T, .int .i64 B, .bool false, .int .i64 z] (gMem g cs g.bk) = some (.tuple #[], gMem g (shL cs (T * W) ((B + 1) * W - T * W) (W : Int) ⟨32, z⟩) g.bk) := by
      intro cs hc
      have := s_scroll_down ⟨g.r, g.w, cs, g.bk⟩ z W T B hW W1 W2 hTB (by omega) (by simp only [hc]; omega) (by simp only [hc]; omega) l3
      simp only [gMem, scS, hc] at this ⊢
      exact this
    have h := l_many_stay g z (W : Int) W T B N false hak (by omega) hst N 0 QQ (by omega) (by unfold QQ; omega)
    have hz0 : scS g W T B (((0 : Nat) : Int) * (W : Int)) z = g.cs := by
      simp only [scS]
      rw [show ((0 : Nat) : Int) * (W : Int) = 0 by simp]
      exact shL_zero _ _ _ _ hak
    rw [hz0, scS_eq g z n (W : Int) W T B N hTB hak hN (.inr ⟨by omega, rfl⟩), ← ecs] at h
    have hbk : (scG g T B n z).bk = g.bk := by simp only [scG]; rw [if_neg (by omega)]
    refine ⟨_, _, by rw [hbk]; exact .inl ⟨rfl, rfl⟩, ?_⟩
    generalize (scG g T B n z).cs = cs' at *
    by_cases hneg : n < 0
    · have hm : min (-n) ((B : Int) - T + 1) = N := by omega
      simp (maxSteps := 400000) -implicitDefEqProofs [X_spec_l3Many, retK_eq, cutK_eq, s_spec_l1Min, w1, w2, hm, hpos, hneg, h, e5]
    · have hm : min n ((B : Int) - T + 1) = N := by omega
      simp (maxSteps := 400000) -implicitDefEqProofs [X_spec_l3Many, retK_eq, cutK_eq, s_spec_l1Min, w1, w2, hm, hpos, hneg, h]
theorem s_spec_l3Attr4 (n : Int) : X_spec_l3Attr [.int .i64 n] [] = some (.bool (atB n), []) := by
  simp +contextual -implicitDefEqProofs [X_spec_l3Attr, s_spec_l1In, retK_eq, atB]
theorem s_spec_ScrollGrid_fault (g : GridT) (t b n z : Int) (hg : g.small) (hf : ¬ faultG g = 0) : X_spec_ScrollGrid [gridV g, .int .i64 t, .int .i64 b, .int .i64 n, .int .i64 z] [] = some (resZ (faultG g), []) := by
  have c1 := fun rest => s_spec_l3Fault g hg rest
  have c4 := s_spec_l3Bad
  simp (maxSteps := 1000000) -implicitDefEqProofs [X_spec_ScrollGrid, retK_eq, c1, c4, hf]
theorem s_spec_ScrollGrid_bad (g : GridT) (t b n z : Int) (hg : g.small) (hf : faultG g = 0) (ho : okSc g t b n z = false) : X_spec_ScrollGrid [gridV g, .int .i64 t, .int .i64 b, .int .i64 n, .int .i64 z] [] = some (resZ 3, []) := by
  have c1 := fun rest => s_spec_l3Fault g hg rest
  have c4 := s_spec_l3Bad
  cases h1 : inB t 0 (IntKind.i64.wrap (g.r - 1)) <;> cases h2 : inB b t (IntKind.i64.wrap (g.r - 1)) <;> cases h3 : inB n (-9) 9 <;> simp [okSc, h1, h2, h3] at ho <;> simp (maxSteps := 1000000) -implicitDefEqProofs [X_spec_ScrollGrid, retK_eq, s_spec_l1In, s_spec_l3Attr4, c1, c4, hf, h1, h2, h3, *]
theorem s_spec_ScrollGrid (g : GridT) (t b n z : Int) (hg : g.small) (hf : faultG g = 0) (ho : okSc g t b n z = true) (hlen : (scG g t b n z).cs.length = g.cs.length) : X_spec_ScrollGrid [gridV g, .int .i64 t, .int .i64 b, .int .i64 n, .int .i64 z] [] = some (resO (scG g t b n z) 0 1, [ownB eC (scG g t b n z).cs, ownB eC (scG g t b n z).bk]) := by
  have c1 := fun rest => s_spec_l3Fault g hg rest
  have c4 := s_spec_l3Copy g hg
  obtain ⟨bv, bm, hb, c5⟩ := s_spec_l3Many g t b n z hf ho
  have ho' := ho
  simp [okSc] at ho'
  rcases hb with ⟨rfl, rfl⟩ | ⟨c, rfl, rfl⟩ <;> simp (maxSteps := 1000000) -implicitDefEqProofs [X_spec_ScrollGrid, retK_eq, s_spec_l1In, s_spec_l3Attr4, c1, c4, c5, hf, ho'.1, ho'.2.1, ho'.2.2.1, ho'.2.2.2, hlen] <;> simp [scG]
end Go.Ab
