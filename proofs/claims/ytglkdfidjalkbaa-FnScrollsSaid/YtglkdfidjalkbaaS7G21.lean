/- What the functions of the program answer, for all arguments that the theorems name as conditions. -/
import Derived.Test.YtglkdfidjalkbaaS7G17a
import Derived.Test.YtglkdfidjalkbaaS7G16
namespace Go.Ab
set_option linter.unusedSimpArgs false
set_option linter.unusedVariables false
set_option maxHeartbeats 4000000

/-! ## Scrolling -/
theorem mul_bd {n w a b : Int} (h1 : -a ≤ n) (h2 : n ≤ a) (h3 : 0 ≤ w) (h4 : w ≤ b) : -(a * b) ≤ n * w ∧ n * w ≤ a * b := by
  have ha : 0 ≤ a := by omega
  have e1 : n * w ≤ a * w := Int.mul_le_mul_of_nonneg_right h2 h3
  have e2 : -a * w ≤ n * w := Int.mul_le_mul_of_nonneg_right h1 h3
  have e3 : a * w ≤ a * b := Int.mul_le_mul_of_nonneg_left h4 ha
  rw [Int.neg_mul] at e2
  omega
def keepL (bk kp : List CellT) (m : Nat) : List CellT := (bk ++ kp).drop ((bk ++ kp).length - m)
def keepP (bk kp : List CellT) (m : Nat) : List CellT := (bk ++ kp).take ((bk ++ kp).length - m)
theorem keep_all (bk kp : List CellT) (m : Nat) : keepP bk kp m ++ keepL bk kp m = bk ++ kp := List.take_append_drop _ _
def okSc (g : GridT) (t b n z : Int) : Bool := inB t 0 (IntKind.i64.wrap (g.r - 1)) && (inB b t (IntKind.i64.wrap (g.r - 1)) && (inB n (-9) 9 && atB z))
def scKp (g : GridT) (b n : Int) : List CellT := g.cs.take (min n (b + 1) * g.w).toNat
def scG (g : GridT) (t b n z : Int) : GridT := ⟨g.r, g.w, shL g.cs (t * g.w).toNat ((b + 1) * g.w - t * g.w).toNat (-n * g.w) ⟨32, z⟩, if t = 0 ∧ 0 < n then keepL g.bk (scKp g b n) (5 * g.w).toNat else g.bk⟩
theorem sc_facts {g : GridT} {t b n z : Int} (hf : faultG g = 0) (ho : okSc g t b n z = true) : ∃ A K W : Nat, g.w = W ∧ t * g.w = A ∧ (b + 1) * g.w = ((A + K : Nat) : Int) ∧ 0 < K ∧ A + K ≤ g.cs.length ∧ g.cs.length ≤ 72 ∧ g.bk.length ≤ 60 ∧ W ≤ 12 ∧ 2 ≤ W ∧ -9 ≤ n ∧ n ≤ 9 ∧ 0 ≤ t ∧ t ≤ b ∧ b < g.r ∧ g.r ≤ 6 ∧ IntKind.i64.wrap (t * g.w) = (A : Nat) ∧ IntKind.i64.wrap (b + 1) = b + 1 ∧ IntKind.i64.wrap ((b + 1) * g.w) = ((A + K : Nat) : Int) ∧ IntKind.i64.wrap (b + 1 - t) = b + 1 - t ∧ IntKind.i64.wrap (-n) = -n ∧ IntKind.i64.wrap (-n * g.w) = -n * g.w ∧ -108 ≤ -n * g.w ∧ -n * g.w ≤ 108 ∧ IntKind.i64.wrap (5 * g.w) = ((5 * W : Nat) : Int) ∧ W ≤ K := by
  obtain ⟨r1, r2, w1, w2, hl, l1, l2, l3, _⟩ := grid_facts hf
  have q1 : IntKind.i64.wrap (g.r - 1) = g.r - 1 := wrap_i64 (by omega) (by omega)
  unfold okSc at ho
  simp only [Bool.and_eq_true, inB, decide_eq_true_eq, q1] at ho
  obtain ⟨⟨t0, t1⟩, ⟨b0, b1⟩, ⟨n0, n1⟩, ha⟩ := ho
  obtain ⟨A, W, hW, hA, m4, m5, W1, W2, A1, e1, e2, e3⟩ := row_of hf t0 (by omega)
  obtain ⟨B, W', hW', hB, m4', m5', _, _, B1, e1', e2', e3'⟩ := row_of hf (y := b) (by omega) (by omega)
  have : W' = W := by omega
  subst this
  have m1 : t * g.w ≤ b * g.w := Int.mul_le_mul_of_nonneg_right b0 (by omega)
  have md := mul_bd (n := -n) (w := g.w) (a := 9) (b := 12) (by omega) (by omega) (by omega) (by omega)
  have eK : A + (B + W' - A) = B + W' := by omega
  refine ⟨A, B + W' - A, W', hW, hA, by rw [eK]; exact m4', by omega, by omega, l1, l2, W1, W2, n0, n1, t0, b0, by omega, r2, e1, e2', by rw [eK]; exact e3', wrap_i64 (by omega) (by omega), ?_, wrap_i64 (by omega) (by omega), by omega, by omega, ?_, by omega⟩
  · rw [wrap_i64 (by omega) (by omega)]
  · rw [wrap_i64 (by omega) (by omega), hW]; simp
/-- What lies behind now: nothing, or cells in a part of a block. -/
abbrev slP (b : Nat) (pre l : List CellT) : Value := .slice (some ⟨b, pre.length * 2, none⟩) l.length l.length
theorem s_impl_scroll_stay (g : GridT) (t b n z : Int) (bv : Value) (bm : Mem) (hf : faultG g = 0) (ho : okSc g t b n z = true) (hk : ¬ (t = 0 ∧ 0 < n)) (hb : BK g.bk 2 bv bm) : X_impl_Grid_scroll [ptr 0, .int .i64 t, .int .i64 b, .int .i64 n, .int .i64 z] (blk [.int .i64 g.r, .int .i64 g.w, slO 1 g.cs.length, bv] :: ownB eC g.cs :: bm) = some (.tuple #[], blk [.int .i64 g.r, .int .i64 g.w, slO 1 g.cs.length, bv] :: ownB eC (scG g t b n z).cs :: bm) := by
  obtain ⟨A, K, W, hW, hA, hB, K0, l1, l2, l3, W1, W2, n0, n1, t0, t1, b1, r6, e1, e2, e3, e4, e5, e6, e7, e8, e9, _⟩ := sc_facts hf ho
  have s1 := fun m (hm : esOf m 1 = some 2) => sl_own (m := m) (sz := 2) (n := 1) (o := 0) (len := g.cs.length) (c := g.cs.length) (lo := some (.int .i64 (A : Nat))) (hi := some (.int .i64 (A + K : Nat))) hm (bnd_nat _ _ _) (bnd_nat _ _ _) (by omega) (by omega) (by omega)
  have hmv := s_moved g.cs A K (g.cs.length - A) (-n * g.w) z (by omega) (by omega) (by omega) (by omega)
  have ecs : (scG g t b n z).cs = g.cs.take A ++ mvL ((g.cs.drop A).take K) (-n * g.w) ⟨32, z⟩ ++ g.cs.drop (A + K) := by
    simp only [scG, shL, hA, hB]
    rw [show ((A : Int)).toNat = A by omega, show (((A + K : Nat) : Int) - (A : Int)).toNat = K by omega]
  rw [← ecs] at hmv
  rw [show A + K - A = K by omega] at s1
  simp only [Nat.zero_add] at s1
  generalize (scG g t b n z).cs = cs' at *
  generalize A + K = Q at *
  have w0 : IntKind.i64.wrap 0 = 0 := wrap_i64 (by omega) (by omega)
  by_cases ht : t = 0
  · subst ht
    have hg : ¬ 0 < min n (b + 1) := by omega
    obtain rfl : A = 0 := by simp at hA; omega
    simp at s1 e4 hmv
    rcases hb with ⟨rfl, rfl⟩ | ⟨rfl, rfl, _⟩ <;> simp (maxSteps := 400000) -implicitDefEqProofs [X_impl_Grid_scroll, retK_eq, e2, e3, e4, e5, e6, s1, hmv, esOf, hg, w0]
  · rcases hb with ⟨rfl, rfl⟩ | ⟨rfl, rfl, _⟩ <;> simp (maxSteps := 400000) -implicitDefEqProofs [X_impl_Grid_scroll, retK_eq, e1, e2, e3, e4, e5, e6, s1, hmv, esOf, ht]
theorem keep_facts {g : GridT} {b n z : Int} (hf : faultG g = 0) (ho : okSc g 0 b n z = true) (hn : 0 < n) : ∃ G W : Nat, g.w = W ∧ (min n (b + 1) * g.w).toNat = G ∧ IntKind.i64.wrap (min n (b + 1) * g.w) = (G : Nat) ∧ 0 < G ∧ (∀ K : Nat, (b + 1) * g.w = (K : Nat) → G ≤ K) ∧ G ≤ g.cs.length ∧ W ≤ G ∧ (scKp g b n).length = G ∧ scKp g b n = g.cs.take G ∧ (5 * g.w).toNat = 5 * W ∧ (G : Int) = min n (b + 1) * W := by
  obtain ⟨A, K, W, hW, hA, hB, K0, l1, l2, l3, W1, W2, n0, n1, t0, t1, b1, r6, e1, e2, e3, e4, e5, e6, e7, e8, e9, _⟩ := sc_facts hf ho
  have m1 := mul_le (r := min n (b + 1)) (w := g.w) (a := 9) (b := 12) (by omega) (by omega) (by omega) (by omega)
  have m2 : min n (b + 1) * g.w ≤ (b + 1) * g.w := Int.mul_le_mul_of_nonneg_right (by omega) (by omega)
  have m3 : 1 * g.w ≤ min n (b + 1) * g.w := Int.mul_le_mul_of_nonneg_right (by omega) (by omega)
  obtain ⟨G, hG⟩ := Int.eq_ofNat_of_zero_le m1.1
  have hA0 : A = 0 := by simp at hA; omega
  refine ⟨G, W, hW, by omega, by rw [hG, wrap_i64 (by omega) (by omega)], by omega, fun K' hK' => by omega, by omega, by omega, ?_, ?_, by omega, by rw [← hG, hW]⟩
  · unfold scKp
    rw [hG]
    simp
    omega
  · unfold scKp
    rw [hG]
    simp
theorem s_impl_scroll_keep (g : GridT) (b n z : Int) (bv : Value) (bm : Mem) (hf : faultG g = 0) (ho : okSc g 0 b n z = true) (hn : 0 < n) (hb : BK g.bk 2 bv bm) : X_impl_Grid_scroll [ptr 0, .int .i64 0, .int .i64 b, .int .i64 n, .int .i64 z] (blk [.int .i64 g.r, .int .i64 g.w, slO 1 g.cs.length, bv] :: ownB eC g.cs :: bm) = some (.tuple #[], blk [.int .i64 g.r, .int .i64 g.w, slO 1 g.cs.length, slP (bm.length + 2) (keepP g.bk (scKp g b n) (5 * g.w).toNat) (keepL g.bk (scKp g b n) (5 * g.w).toNat)] :: ownB eC (scG g 0 b n z).cs :: (bm ++ [ownB eC (g.bk ++ scKp g b n)])) := by
  obtain ⟨A, K, W, hW, hA, hB, K0, l1, l2, l3, W1, W2, n0, n1, t0, t1, b1, r6, e1, e2, e3, e4, e5, e6, e7, e8, e9, _⟩ := sc_facts hf ho
  obtain ⟨G, W', hW', g1, g2, g3, g4, g5, g6, g7, g8, g9, _⟩ := keep_facts hf ho hn
  have : W' = W := by omega
  subst this
  have s1 := fun m (hm : esOf m 1 = some 2) => sl_own (m := m) (sz := 2) (n := 1) (o := 0) (len := g.cs.length) (c := g.cs.length) (lo := some (.int .i64 (A : Nat))) (hi := some (.int .i64 (A + K : Nat))) hm (bnd_nat _ _ _) (bnd_nat _ _ _) (by omega) (by omega) (by omega)
  have hmv := s_moved g.cs A K (g.cs.length - A) (-n * g.w) z (by omega) (by omega) (by omega) (by omega)
  have ecs : (scG g 0 b n z).cs = g.cs.take A ++ mvL ((g.cs.drop A).take K) (-n * g.w) ⟨32, z⟩ ++ g.cs.drop (A + K) := by
    simp only [scG, shL, hA, hB]
    rw [show ((A : Int)).toNat = A by omega, show (((A + K : Nat) : Int) - (A : Int)).toNat = K by omega]
  rw [← ecs] at hmv
  rw [show A + K - A = K by omega] at s1
  simp only [Nat.zero_add] at s1
  generalize (scG g 0 b n z).cs = cs' at *
  have w0 : IntKind.i64.wrap 0 = 0 := wrap_i64 (by omega) (by omega)
  have hg : 0 < min n (b + 1) := by omega
  obtain rfl : A = 0 := by simp at hA; omega
  simp only [Nat.zero_add] at hB l1 e3 s1
  have GK := g4 K hB
  have s2 := fun m c (hm : esOf m 1 = some 2) (hc : 0 < c ∧ G ≤ c) => sl_own (m := m) (sz := 2) (n := 1) (o := 0) (len := K) (c := c) (lo := none) (hi := some (.int .i64 (G : Nat))) hm rfl (bnd_nat _ _ _) (by omega) hc.2 hc.1
  have s2 := fun m hm => s2 m g.cs.length hm ⟨by omega, by omega⟩
  have hfk := fun j m => fzO_part eC j m (l := g.cs) (o := 0) (a := 0) (len := G) (by simp) (by omega)
  simp only [List.drop_zero, ← g8] at hfk
  have cc := s_ConcatC g.bk (scKp g b n) (by omega) (by omega)
  simp only [two, g7] at cc
  obtain ⟨P, hP⟩ : ∃ P, P = g.bk.length + G - 5 * W' := ⟨_, rfl⟩
  have hmx : max 0 ((g.bk.length : Int) + G - ((5 * W' : Nat) : Int)) = (P : Nat) := by omega
  have w1 : IntKind.i64.wrap ((g.bk.length : Int) + G - ((5 * W' : Nat) : Int)) = (g.bk.length : Int) + G - ((5 * W' : Nat) : Int) := wrap_i64 (by omega) (by omega)
  have s3 := fun m k (hm : esOf m k = some 2) => sl_own (m := m) (sz := 2) (n := k) (o := 0) (len := g.bk.length + G) (c := g.bk.length + G) (lo := some (.int .i64 (P : Nat))) (hi := none) hm (bnd_nat _ _ _) rfl (by omega) (by omega) (by omega)
  have p1 : (keepP g.bk (scKp g b n) (5 * g.w).toNat).length = P := by simp [keepP, g7, g9]; omega
  have p2 : (keepL g.bk (scKp g b n) (5 * g.w).toNat).length = g.bk.length + G - P := by simp [keepL, g7, g9]; omega
  generalize (keepP g.bk (scKp g b n) (5 * g.w).toNat) = kP at *
  generalize (keepL g.bk (scKp g b n) (5 * g.w).toNat) = kL at *
  generalize 5 * W' = W5 at *
  clear hP
  simp at s1 e4 hmv s2 s3
  have b60 : g.bk.length < 1000000000 := by omega
  generalize scKp g b n = kp at *
  rcases hb with ⟨rfl, rfl⟩ | ⟨rfl, rfl, hb0⟩
  · simp (maxSteps := 800000) -implicitDefEqProofs [X_impl_Grid_scroll, retK_eq, e2, e3, e4, e5, e6, e9, g2, s1, s2, s3, hmv, esOf, hg, hn, w0, w1, hfk, cc, hmx, p1, p2]
  · rw [hb0] at cc
    simp only [frS_nil, List.nil_append, List.length_nil] at cc
    rw [hb0] at hmx w1 s3 p2
    simp at hmx w1 s3 p2 cc
    simp [hb0]
    simp (maxSteps := 800000) -implicitDefEqProofs [X_impl_Grid_scroll, retK_eq, e2, e3, e4, e5, e6, e9, g2, s1, s2, s3, hmv, esOf, hg, hn, w0, w1, hfk, cc, hmx, p1, p2]
end Go.Ab
