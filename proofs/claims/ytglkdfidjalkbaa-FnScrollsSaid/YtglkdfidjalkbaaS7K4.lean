/- What the functions of the program answer, for all arguments that the theorems name as conditions. -/
import Derived.Test.YtglkdfidjalkbaaS7K3
namespace Go.Ab
set_option linter.unusedSimpArgs false
set_option linter.unusedVariables false
set_option maxHeartbeats 8000000

theorem lwC_pl {g : GridT} (hf : faultG g = 0) {y x : Int} (y0 : 0 ≤ y) (y1 : y < g.r) (x0 : 0 ≤ x) (x1 : x < g.w) : lwC g y x = gt g.cs (y * g.w + x).toNat ∧ 0 ≤ y * g.w + x ∧ y * g.w + x < g.cs.length := by
  obtain ⟨q1, q2, q3, q4, q5, q6, q7, q8, q9, q10, _⟩ := grid_facts hf
  obtain ⟨A, W, hW, hA, m4, m5, W1, W2, A1, e1, e2, e3⟩ := row_of hf y0 y1
  have w1 : IntKind.i64.wrap ((A : Int) + x) = (A : Int) + x := wrap_i64 (by omega) (by omega)
  refine ⟨?_, by omega, by omega⟩
  unfold lwC
  rw [e1, w1, hA, if_neg (by omega)]
theorem sc_want {g : GridT} {t b n z : Int} (hf : faultG g = 0) (ho : okSc g t b n z = true) {y x : Int} (y0 : 0 ≤ y) (y1 : y < g.r) (x0 : 0 ≤ x) (x1 : x < g.w) : lwC (scG g t b n z) y x = if t ≤ y ∧ y ≤ b then (if t ≤ y + n ∧ y + n ≤ b then lwC g (y + n) x else ⟨32, z⟩) else lwC g y x := by
  have hf2 := scG_ok hf ho
  obtain ⟨A, K, W, hW, hA, hB, K0, l1, l2, l3, W1, W2, n0, n1, t0, t1, b1, r6, e1, e2, e3, e4, e5, e6, e7, e8, e9, _⟩ := sc_facts hf ho
  obtain ⟨p1, p2, p3⟩ := lwC_pl hf2 y0 y1 x0 x1
  have hl := sc_len hf ho
  rw [hl] at p3
  have ew : (scG g t b n z).w = g.w := rfl
  rw [ew] at p1 p2 p3
  obtain ⟨k, hk⟩ := Int.eq_ofNat_of_zero_le p2
  have ecs : (scG g t b n z).cs = shL g.cs A K (-n * g.w) ⟨32, z⟩ := by
    simp only [scG]
    rw [hA, hB, show (A : Int).toNat = A by omega, show (((A + K : Nat) : Int) - (A : Int)).toNat = K by omega]
  rw [p1, hk, ecs, Int.toNat_natCast, shL_gt _ _ _ _ _ (by omega) _ (by omega)]
  have i1 := mul_le_iff (a := t) (b := y) x0 x1
  have i2 := mul_le_iff (a := b + 1) (b := y) x0 x1
  have i3 := mul_le_iff (a := t) (b := y + n) x0 x1
  have i4 := mul_le_iff (a := b + 1) (b := y + n) x0 x1
  have ek : (k : Int) - -n * g.w = (y + n) * g.w + x := by rw [← hk, Int.neg_mul, Int.add_mul]; omega
  rw [ek]
  rw [hA, hk] at i1
  rw [hB, hk] at i2
  rw [hA] at i3
  rw [hB] at i4
  by_cases h1 : t ≤ y ∧ y ≤ b
  · rw [if_pos h1, if_pos (by omega)]
    by_cases h2 : t ≤ y + n ∧ y + n ≤ b
    · rw [if_pos h2, if_pos (by omega)]
      exact (lwC_pl hf (y := y + n) (by omega) (by omega) x0 x1).1.symm
    · rw [if_neg h2, if_neg (by omega)]
  · rw [if_neg h1, if_neg (by omega), (lwC_pl hf y0 y1 x0 x1).1, hk]
    rfl
theorem sc_back {g : GridT} {b n z : Int} (hf : faultG g = 0) (ho : okSc g 0 b n z = true) (hn : 0 < n) : g.w ≤ (scG g 0 b n z).bk.length ∧ ((scG g 0 b n z).bk.length : Int) ≤ 60 ∧ ∀ x : Nat, (x : Int) < g.w → gt (scG g 0 b n z).bk (((scG g 0 b n z).bk.length : Int) - g.w + x).toNat = lwC g (if b < n - 1 then b else n - 1) x := by
  obtain ⟨A, K, W, hW, hA, hB, K0, l1, l2, l3, W1, W2, n0, n1, t0, t1, b1, r6, e1, e2, e3, e4, e5, e6, e7, e8, e9, _⟩ := sc_facts hf ho
  obtain ⟨G, W', hW', g1, g2, g3, g4, g5, g6, g7, g8, g9, gG⟩ := keep_facts hf ho hn
  have : W' = W := by omega
  subst this
  rw [scG_bk g b n z hn, g9]
  have hlen : (keepL g.bk (scKp g b n) (5 * W')).length = min (g.bk.length + G) (5 * W') := by
    unfold keepL
    rw [List.length_drop, List.length_append, g7]
    omega
  rw [hlen]
  refine ⟨by omega, by omega, fun x hx => ?_⟩
  have hlast : (if b < n - 1 then b else n - 1) = min n (b + 1) - 1 := by split <;> omega
  rw [hlast, (lwC_pl hf (y := min n (b + 1) - 1) (x := x) (by omega) (by omega) (by omega) hx).1]
  unfold keepL
  have e : (min n (b + 1) - 1) * g.w + x = (G : Int) - W' + x := by rw [Int.sub_mul, Int.one_mul, hW, gG]
  rw [e, gt_drop, gt_app2 _ _ _ (by rw [List.length_append, g7]; omega), g8, gt_take _ _ _ (by simp only [List.length_append, List.length_take]; omega)]
  congr 1
  simp only [List.length_append, List.length_take]
  omega
end Go.Ab
