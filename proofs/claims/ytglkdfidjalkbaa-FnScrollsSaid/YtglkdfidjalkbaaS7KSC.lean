/- What the functions of the program answer, for all arguments that the theorems name as conditions. -/
import Derived.Test.YtglkdfidjalkbaaS7D5
import Derived.Test.YtglkdfidjalkbaaS7D6
import Derived.Test.YtglkdfidjalkbaaS7K4
namespace Go.Ab
set_option linter.unusedSimpArgs false
set_option linter.unusedVariables false
set_option maxHeartbeats 8000000

/-! ## FnScrolls -/
abbrev gB (g : GridT) : Blk := blk [.int .i64 g.r, .int .i64 g.w, frS eC g.cs, frS eC g.bk]
abbrev rB (k : Int) (g : GridT) : Blk := blk [.int .i64 k, .int .i64 g.r, .int .i64 g.w, frS eC g.cs, frS eC g.bk]
theorem scG_small2 {g : GridT} {t b n z : Int} (hf : faultG g = 0) (ho : okSc g t b n z = true) : (scG g t b n z).small := by
  obtain ⟨q1, q2, q3, q4, q5, q6, q7, q8, q9, q10, _⟩ := grid_facts (scG_ok hf ho)
  exact ⟨by omega, by omega⟩
theorem l_FnScrolls2 (g S : GridT) (b n z last : Int) (hg : g.small) (hS : S = scG g 0 b n z) (hf : faultG g = 0) (ho : okSc g 0 b n z = true) (hn : 0 < n) (hl : last = if b < n - 1 then b else n - 1) : ∀ (d x q : Nat), (d : Int) + x = g.w → d < q → L_laws_FnScrolls 0 q 2 [pt 0, .int .i64 0, .int .i64 b, .int .i64 n, .int .i64 z, pt 1, .int .i64 S.bk.length, .int .i64 last, .int .i64 x] [gB g, rB 0 S] = some (.bool true, []) := by
  have z2 := z_spec_ScrollGrid g 0 b n z hg
  have ek : kSc g 0 b n z = 0 := by unfold kSc; rw [if_pos hf, if_pos ho]
  have eg : gSc g 0 b n z = S := by unfold gSc; rw [if_pos ⟨hf, ho⟩, hS]
  rw [ek, eg] at z2
  have hSs : S.small := by rw [hS]; exact scG_small2 hf ho
  have c1 := s_impl_GridFault S hSs
  have hfS : faultG S = 0 := by rw [hS]; exact scG_ok hf ho
  rw [hfS] at c1
  have c2 := s_SameGrids S hSs
  obtain ⟨k1, k2, k3⟩ := sc_back hf ho hn
  rw [← hS, ← hl] at k3
  rw [← hS] at k1 k2
  obtain ⟨q1, q2, q3, q4, _⟩ := grid_facts hf
  intro d
  induction d with
  | zero =>
    intro x q hd hq
    obtain ⟨q, rfl⟩ : ∃ n, q = n + 1 := ⟨q - 1, by omega⟩
    have hlt : ¬ (x : Int) < g.w := by omega
    simp (maxSteps := 800000) -implicitDefEqProofs [-icall_eq, L_laws_FnScrolls, retK_eq, cutK_eq, hlt, c1, c2, z2, hn]
  | succ d ih =>
    intro x q hd hq
    obtain ⟨q, rfl⟩ : ∃ n, q = n + 1 := ⟨q - 1, by omega⟩
    have h := ih (x + 1) q (by push_cast at hd ⊢; omega) (by omega)
    have hlt : (x : Int) < g.w := by omega
    have hw := wrap_next (n := x) (by omega)
    have w1 : IntKind.i64.wrap ((S.bk.length : Int) - g.w) = (S.bk.length : Int) - g.w := wrap_i64 (by omega) (by omega)
    have w2 : IntKind.i64.wrap ((S.bk.length : Int) - g.w + x) = (S.bk.length : Int) - g.w + x := wrap_i64 (by omega) (by omega)
    have hx := ixa_frS eC (sz := 2) rfl .i64 (l := S.bk) (j := (S.bk.length : Int) - g.w + x) (by omega) (by omega)
    rw [k3 x hlt] at hx
    have c3 := s_lwCell g last x
    simp at h
    simp (maxSteps := 800000) -implicitDefEqProofs [-icall_eq, L_laws_FnScrolls, retK_eq, cutK_eq, hlt, hw, w1, w2, hx, c3, eqFX_cons, h]
theorem l_FnScrolls1 (g S : GridT) (t b n z : Int) (y c : Nat) (hg : g.small) (hS : S = scG g t b n z) (hf : faultG g = 0) (ho : okSc g t b n z = true) (hy : (y : Int) < g.r)
    (hnext : ∀ q, c < q → L_laws_FnScrolls 0 q 0 [pt 0, .int .i64 t, .int .i64 b, .int .i64 n, .int .i64 z, pt 1, .int .i64 ((y : Int) + 1)] [gB g, rB 0 S] = some (.bool true, [])) :
    ∀ (d x q : Nat), (d : Int) + x = g.w → d + c + 1 < q → L_laws_FnScrolls 0 q 1 [pt 0, .int .i64 t, .int .i64 b, .int .i64 n, .int .i64 z, pt 1, .int .i64 y, .int .i64 x] [gB g, rB 0 S] = some (.bool true, []) := by
  obtain ⟨q1, q2, q3, q4, _⟩ := grid_facts hf
  obtain ⟨A, K, W, hW, hA, hB, K0, l1, l2, l3, W1, W2, n0, n1, t0, t1, b1, r6, e1, e2, e3, e4, e5, e6, e7, e8, e9, _⟩ := sc_facts hf ho
  have hwy := wrap_next (n := y) (by omega)
  have hwyn : IntKind.i64.wrap ((y : Int) + n) = (y : Int) + n := wrap_i64 (by omega) (by omega)
  intro d
  induction d with
  | zero =>
    intro x q hd hq
    obtain ⟨q, rfl⟩ : ∃ n, q = n + 1 := ⟨q - 1, by omega⟩
    have hlt : ¬ (x : Int) < g.w := by omega
    have h := hnext q (by omega)
    simp (maxSteps := 800000) -implicitDefEqProofs [-icall_eq, L_laws_FnScrolls, retK_eq, cutK_eq, hlt, hwy, h]
  | succ d ih =>
    intro x q hd hq
    obtain ⟨q, rfl⟩ : ∃ n, q = n + 1 := ⟨q - 1, by omega⟩
    have h := ih (x + 1) q (by push_cast at hd ⊢; omega) (by omega)
    have hlt : (x : Int) < g.w := by omega
    have hw := wrap_next (n := x) (by omega)
    have c1 := s_lwCell g y x
    have c2 := s_lwCell S y x
    have c3 := s_lwCell g ((y : Int) + n) x
    have hwant := sc_want hf ho (y := (y : Int)) (x := (x : Int)) (by omega) hy (by omega) hlt
    rw [← hS] at hwant
    rw [hwant] at c2
    simp at h
    by_cases h1 : t ≤ y
    · by_cases h2 : (y : Int) ≤ b
      · by_cases h3 : t ≤ (y : Int) + n
        · by_cases h4 : (y : Int) + n ≤ b
          · rw [if_pos ⟨h1, h2⟩, if_pos ⟨h3, h4⟩] at c2
            simp (maxSteps := 800000) -implicitDefEqProofs [-icall_eq, L_laws_FnScrolls, retK_eq, cutK_eq, hlt, hw, hwyn, c1, c2, c3, h1, h2, h3, h4, eqFX_cons, h]
          · rw [if_pos ⟨h1, h2⟩, if_neg (by omega)] at c2
            simp (maxSteps := 800000) -implicitDefEqProofs [-icall_eq, L_laws_FnScrolls, retK_eq, cutK_eq, hlt, hw, hwyn, c1, c2, c3, h1, h2, h3, h4, eqFX_cons, h]
        · rw [if_pos ⟨h1, h2⟩, if_neg (by omega)] at c2
          simp (maxSteps := 800000) -implicitDefEqProofs [-icall_eq, L_laws_FnScrolls, retK_eq, cutK_eq, hlt, hw, hwyn, c1, c2, c3, h1, h2, h3, eqFX_cons, h]
      · rw [if_neg (by omega)] at c2
        simp (maxSteps := 800000) -implicitDefEqProofs [-icall_eq, L_laws_FnScrolls, retK_eq, cutK_eq, hlt, hw, hwyn, c1, c2, c3, h1, h2, eqFX_cons, h]
    · rw [if_neg (by omega)] at c2
      simp (maxSteps := 800000) -implicitDefEqProofs [-icall_eq, L_laws_FnScrolls, retK_eq, cutK_eq, hlt, hw, hwyn, c1, c2, c3, h1, eqFX_cons, h]
theorem l_FnScrolls0 (g S : GridT) (t b n z : Int) (hg : g.small) (hS : S = scG g t b n z) (hf : faultG g = 0) (ho : okSc g t b n z = true) :
    ∀ (d y q : Nat), (d : Int) + y = g.r → 50 * d + 500 < q → L_laws_FnScrolls 0 q 0 [pt 0, .int .i64 t, .int .i64 b, .int .i64 n, .int .i64 z, pt 1, .int .i64 y] [gB g, rB 0 S] = some (.bool true, []) := by
  obtain ⟨q1, q2, q3, q4, _⟩ := grid_facts hf
  obtain ⟨A, K, W, hW, hA, hB, K0, l1, l2, l3, W1, W2, n0, n1, t0, t1, b1, r6, e1, e2, e3, e4, e5, e6, e7, e8, e9, _⟩ := sc_facts hf ho
  have hwn : IntKind.i64.wrap (n - 1) = n - 1 := wrap_i64 (by omega) (by omega)
  intro d
  induction d with
  | zero =>
    intro y q hd hq
    obtain ⟨q, rfl⟩ : ∃ n, q = n + 1 := ⟨q - 1, by omega⟩
    have hlt : ¬ (y : Int) < g.r := by omega
    by_cases hk : t = 0 ∧ 0 < n
    · obtain ⟨rfl, hn⟩ := hk
      obtain ⟨k1, k2, k3⟩ := sc_back hf ho hn
      rw [← hS] at k1
      have hge : ¬ (S.bk.length : Int) < g.w := by omega
      by_cases h1 : b < n - 1
      · have h := l_FnScrolls2 g S b n z b hg hS hf ho hn (by rw [if_pos h1]) W 0 q (by omega) (by omega)
        simp at h
        simp (maxSteps := 800000) -implicitDefEqProofs [-icall_eq, L_laws_FnScrolls, retK_eq, cutK_eq, hlt, hn, hwn, h1, hge, h]
      · have h := l_FnScrolls2 g S b n z (n - 1) hg hS hf ho hn (by rw [if_neg h1]) W 0 q (by omega) (by omega)
        simp at h
        simp (maxSteps := 800000) -implicitDefEqProofs [-icall_eq, L_laws_FnScrolls, retK_eq, cutK_eq, hlt, hn, hwn, h1, hge, h]
    · have z2 := z_spec_ScrollGrid g t b n z hg
      have ek : kSc g t b n z = 0 := by unfold kSc; rw [if_pos hf, if_pos ho]
      have eg : gSc g t b n z = S := by unfold gSc; rw [if_pos ⟨hf, ho⟩, hS]
      rw [ek, eg] at z2
      have hSs : S.small := by rw [hS]; exact scG_small2 hf ho
      have c1 := s_impl_GridFault S hSs
      have hfS : faultG S = 0 := by rw [hS]; exact scG_ok hf ho
      rw [hfS] at c1
      have c2 := s_SameGrids S hSs
      have hbk : S.bk.length = g.bk.length := by rw [hS]; simp only [scG]; rw [if_neg hk]
      by_cases ht : t = 0
      · have hn : ¬ 0 < n := fun h => hk ⟨ht, h⟩
        subst ht
        simp (maxSteps := 800000) -implicitDefEqProofs [-icall_eq, L_laws_FnScrolls, retK_eq, cutK_eq, hlt, hn, c1, c2, z2, hbk]
      · simp (maxSteps := 800000) -implicitDefEqProofs [-icall_eq, L_laws_FnScrolls, retK_eq, cutK_eq, hlt, ht, c1, c2, z2, hbk]
  | succ d ih =>
    intro y q hd hq
    obtain ⟨q, rfl⟩ : ∃ n, q = n + 1 := ⟨q - 1, by omega⟩
    have hlt : (y : Int) < g.r := by omega
    obtain ⟨c, hc⟩ : ∃ c, c = 50 * d + 500 := ⟨_, rfl⟩
    have hn := fun q (hq : c < q) => ih (y + 1) q (by push_cast at hd ⊢; omega) (by omega)
    rw [Int.natCast_add, Int.natCast_one] at hn
    have h := l_FnScrolls1 g S t b n z y c hg hS hf ho hlt hn W 0 q (by omega) (by omega)
    simp at h
    simp (maxSteps := 800000) -implicitDefEqProofs [-icall_eq, L_laws_FnScrolls, retK_eq, cutK_eq, hlt, h]
theorem QQ_big : 100000 < QQ := by unfold QQ; omega
theorem s_FnScrolls (l : List Int) (hb : ∀ x ∈ l, 0 ≤ x ∧ x < 256) : X_laws_FnScrolls [frS eU8 l] [] = some (.bool true, []) := by
  have c0 := s_lwBig l
  by_cases h0 : 1048576 < l.length
  · simp (maxSteps := 400000) -implicitDefEqProofs [X_laws_FnScrolls, retK_eq, c0, h0]
  · have hl := bytes_small h0 hb
    obtain ⟨g, t, b, n, z, hg, e1⟩ := d_ScrollGrid l hl []
    have e1 := icall_all e1
    have z1 := z_impl_ScrollGrid g t b n z (mid_small hg)
    have z2 := z_spec_ScrollGrid g t b n z (mid_small hg)
    by_cases hk : kSc g t b n z = 0
    · have hk' := hk
      unfold kSc at hk
      split at hk
      · rename_i hf
        split at hk
        · rename_i ho
          have eg : gSc g t b n z = scG g t b n z := by unfold gSc; rw [if_pos ⟨hf, ho⟩]
          rw [hk', eg] at z1
          obtain ⟨q1, q2, q3, q4, _⟩ := grid_facts hf
          have h6 : g.r.toNat ≤ 6 := by omega
          have hq6 : 50 * g.r.toNat + 500 < QQ := by
            have := QQ_big
            omega
          have h := l_FnScrolls0 g (scG g t b n z) t b n z (mid_small hg) rfl hf ho g.r.toNat 0 QQ (by omega) hq6
          generalize scG g t b n z = S at *
          simp at h
          simp (maxSteps := 400000) -implicitDefEqProofs [-icall_eq, X_laws_FnScrolls, retK_eq, cutK_eq, c0, h0, e1, z1, h]
        · cases hk
      · rename_i hf
        exact absurd hk hf
    · generalize kSc g t b n z = k1 at *
      generalize gSc g t b n z = G1 at *
      simp (maxSteps := 400000) -implicitDefEqProofs [-icall_eq, X_laws_FnScrolls, retK_eq, cutK_eq, c0, h0, e1, z1, z2, hk]
def good : List Nat := [2, 42, 5]
theorem good_ok : goodB CT good = true := by kernel_rfl
theorem all_FnScrolls : ∀ xs, TypedAll CT [42] xs → Fz CT 6 xs (.bool true)
  | [a], h => by
    obtain ⟨l, rfl, _, hb⟩ := typed_code (s := 42) (e := 5) h.1 rfl rfl rfl
    exact fz_law ok_X_laws_FnScrolls (s_FnScrolls l hb) (by simp)
  | [], h => h.elim
  | _ :: _ :: _, h => h.2.elim
end Go.Ab
