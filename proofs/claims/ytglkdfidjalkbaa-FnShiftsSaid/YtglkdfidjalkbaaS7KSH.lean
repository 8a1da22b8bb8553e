/- What the functions of the program answer, for all arguments that the theorems name as conditions. -/
import Derived.Test.YtglkdfidjalkbaaS7D5
import Derived.Test.YtglkdfidjalkbaaS7D7
import Derived.Test.YtglkdfidjalkbaaS7K5
import Derived.Test.YtglkdfidjalkbaaS7K6
namespace Go.Ab
set_option linter.unusedSimpArgs false
set_option linter.unusedVariables false
set_option maxHeartbeats 8000000

/-! ## FnShifts -/
abbrev gB (g : GridT) : Blk := blk [.int .i64 g.r, .int .i64 g.w, frS eC g.cs, frS eC g.bk]
abbrev rB (k : Int) (g : GridT) : Blk := blk [.int .i64 k, .int .i64 g.r, .int .i64 g.w, frS eC g.cs, frS eC g.bk]
theorem QQ_big : 100000 < QQ := by unfold QQ; omega
theorem l_FnShifts1 (l : List Int) (g S : GridT) (y x n z : Int) (j c : Nat) (hS : S = shG g y x n z) (hf : faultG g = 0) (ho : okSh g y x n z = true) (hj : (j : Int) < g.r)
    (hnext : ∀ q, c < q → L_laws_FnShifts 0 q 0 [frS eU8 l, pt 0, .int .i64 y, .int .i64 x, .int .i64 n, .int .i64 z, pt 1, .int .i64 ((j : Int) + 1)] [gB g, rB 0 S] = some (.bool true, [])) :
    ∀ (d i q : Nat), (d : Int) + i = g.w → d + c + 1 < q → L_laws_FnShifts 0 q 1 [frS eU8 l, pt 0, .int .i64 y, .int .i64 x, .int .i64 n, .int .i64 z, pt 1, .int .i64 j, .int .i64 i] [gB g, rB 0 S] = some (.bool true, []) := by
  obtain ⟨q1, q2, q3, q4, _⟩ := grid_facts hf
  obtain ⟨A, W, X, hW, hX, x1, hA, l1, l2, W1, n0, n1, y0, y1, e1, e2, e3, e4, e5, e6⟩ := sh_facts hf ho
  have hwj := wrap_next (n := j) (by omega)
  intro d
  induction d with
  | zero =>
    intro i q hd hq
    obtain ⟨q, rfl⟩ : ∃ n, q = n + 1 := ⟨q - 1, by omega⟩
    have hlt : ¬ (i : Int) < g.w := by omega
    have h := hnext q (by omega)
    simp (maxSteps := 800000) -implicitDefEqProofs [-icall_eq, L_laws_FnShifts, retK_eq, cutK_eq, hlt, hwj, h]
  | succ d ih =>
    intro i q hd hq
    obtain ⟨q, rfl⟩ : ∃ n, q = n + 1 := ⟨q - 1, by omega⟩
    have h := ih (i + 1) q (by push_cast at hd ⊢; omega) (by omega)
    have hlt : (i : Int) < g.w := by omega
    have hw := wrap_next (n := i) (by omega)
    have hwn : IntKind.i64.wrap ((i : Int) - n) = (i : Int) - n := wrap_i64 (by omega) (by omega)
    have c1 := s_lwCell g j i
    have c2 := s_lwCell S j i
    have c3 := s_lwCell g j ((i : Int) - n)
    have hwant := sh_want hf ho (j := (j : Int)) (i := (i : Int)) (by omega) hj (by omega) hlt
    rw [← hS] at hwant
    rw [hwant] at c2
    simp at h
    by_cases h1 : (j : Int) = y
    · subst h1
      by_cases h2 : x ≤ (i : Int)
      · by_cases h3 : x ≤ (i : Int) - n
        · by_cases h4 : (i : Int) - n < g.w
          · rw [if_pos ⟨rfl, h2⟩, if_pos ⟨h3, h4⟩] at c2
            simp (maxSteps := 800000) -implicitDefEqProofs [-icall_eq, L_laws_FnShifts, retK_eq, cutK_eq, hlt, hw, hwn, c1, c2, c3, h2, h3, h4, eqFX_cons, h]
          · rw [if_pos ⟨rfl, h2⟩, if_neg (by omega)] at c2
            simp (maxSteps := 800000) -implicitDefEqProofs [-icall_eq, L_laws_FnShifts, retK_eq, cutK_eq, hlt, hw, hwn, c1, c2, c3, h2, h3, h4, eqFX_cons, h]
        · rw [if_pos ⟨rfl, h2⟩, if_neg (by omega)] at c2
          simp (maxSteps := 800000) -implicitDefEqProofs [-icall_eq, L_laws_FnShifts, retK_eq, cutK_eq, hlt, hw, hwn, c1, c2, c3, h2, h3, eqFX_cons, h]
      · rw [if_neg (by omega)] at c2
        simp (maxSteps := 800000) -implicitDefEqProofs [-icall_eq, L_laws_FnShifts, retK_eq, cutK_eq, hlt, hw, hwn, c1, c2, c3, h2, eqFX_cons, h]
    · rw [if_neg (by omega)] at c2
      simp (maxSteps := 800000) -implicitDefEqProofs [-icall_eq, L_laws_FnShifts, retK_eq, cutK_eq, hlt, hw, hwn, c1, c2, c3, h1, eqFX_cons, h]
theorem l_FnShifts0 (l : List Int) (hl : bytesOk l) (g S : GridT) (y x n z : Int) (hS : S = shG g y x n z) (hf : faultG g = 0) (ho : okSh g y x n z = true) :
    ∀ (d j q : Nat), (d : Int) + j = g.r → 50 * d + 500 < q → L_laws_FnShifts 0 q 0 [frS eU8 l, pt 0, .int .i64 y, .int .i64 x, .int .i64 n, .int .i64 z, pt 1, .int .i64 j] [gB g, rB 0 S] = some (.bool true, []) := by
  obtain ⟨q1, q2, q3, q4, _⟩ := grid_facts hf
  have hfS : faultG S = 0 := by rw [hS]; exact shG_ok hf ho
  obtain ⟨r1, r2, r3, r4, r5, r6, r7, r8, _⟩ := grid_facts hfS
  have c1 := s_impl_GridFault S ⟨by omega, by omega⟩
  rw [hfS] at c1
  obtain ⟨nr, nw, e1⟩ := d_NewGrid l hl []
  have e1 := icall_all e1
  have z1 := z_impl_NewGrid nr nw
  have z2 := z_spec_NewGrid nr nw
  have hpos : (0 : Int) < (S.cs.length : Int) := by omega
  intro d
  induction d with
  | zero =>
    intro j q hd hq
    obtain ⟨q, rfl⟩ : ∃ n, q = n + 1 := ⟨q - 1, by omega⟩
    have hlt : ¬ (j : Int) < g.r := by omega
    generalize kNw nr nw = kn at *
    generalize gNw nr nw = gn at *
    simp (maxSteps := 800000) -implicitDefEqProofs [-icall_eq, L_laws_FnShifts, retK_eq, cutK_eq, hlt, c1, e1, z1, z2, r8]
  | succ d ih =>
    intro j q hd hq
    obtain ⟨q, rfl⟩ : ∃ n, q = n + 1 := ⟨q - 1, by omega⟩
    have hlt : (j : Int) < g.r := by omega
    obtain ⟨c, hc⟩ : ∃ c, c = 50 * d + 500 := ⟨_, rfl⟩
    have hn := fun q (hq : c < q) => ih (j + 1) q (by push_cast at hd ⊢; omega) (by omega)
    rw [Int.natCast_add, Int.natCast_one] at hn
    have h := l_FnShifts1 l g S y x n z j c hS hf ho hlt hn g.w.toNat 0 q (by omega) (by omega)
    simp at h
    simp (maxSteps := 800000) -implicitDefEqProofs [-icall_eq, L_laws_FnShifts, retK_eq, cutK_eq, hlt, h]
theorem s_FnShifts (l : List Int) (hb : ∀ x ∈ l, 0 ≤ x ∧ x < 256) : X_laws_FnShifts [frS eU8 l] [] = some (.bool true, []) := by
  have c0 := s_lwBig l
  by_cases h0 : 1048576 < l.length
  · simp (maxSteps := 400000) -implicitDefEqProofs [X_laws_FnShifts, retK_eq, c0, h0]
  · have hl := bytes_small h0 hb
    obtain ⟨g, y, x, n, z, hg, e1⟩ := d_ShiftCells l hl []
    obtain ⟨H, r, w, hH, e2⟩ := d_ResizeGrid l hl []
    have e1 := icall_all e1
    have e2 := icall_all e2
    have z1 := z_impl_ShiftCells g y x n z (mid_small hg)
    have z2 := z_spec_ShiftCells g y x n z (mid_small hg)
    have z3 := z_impl_ResizeGrid H r w (mid_small hH)
    have z4 := z_spec_ResizeGrid H r w (mid_small hH)
    have key : ∀ (G : GridT) (k1 : Int), (∀ m, icall X_impl_ShiftCells [gridV g, .int .i64 y, .int .i64 x, .int .i64 n, .int .i64 z] m = some (resF k1 G, m)) → (∀ m, icall X_spec_ShiftCells [gridV g, .int .i64 y, .int .i64 x, .int .i64 n, .int .i64 z] m = some (resF k1 G, m)) → (k1 = 0 → L_laws_FnShifts 0 QQ 0 [frS eU8 l, pt 0, .int .i64 y, .int .i64 x, .int .i64 n, .int .i64 z, pt 1, .int .i64 0] [gB g, rB k1 G] = some (.bool true, [])) → X_laws_FnShifts [frS eU8 l] [] = some (.bool true, []) := by
      intro G k1 z1 z2 h
      by_cases hf2 : faultG H = 0 ∧ szB r w = true
      · obtain ⟨hf2, ho2⟩ := hf2
        have ek : kRe H r w = 0 := by unfold kRe; rw [if_pos hf2, if_pos ho2]
        have eg : gRe H r w = reG H r w := by unfold gRe; rw [if_pos ⟨hf2, ho2⟩]
        obtain ⟨t1, t2⟩ := re_same hf2
        obtain ⟨u1, u2⟩ := reG_ok hf2 ho2
        have z5 := z_impl_ResizeGrid H H.r H.w (mid_small hH)
        have ek5 : kRe H H.r H.w = 0 := by unfold kRe; rw [if_pos hf2, if_pos t2]
        have eg5 : gRe H H.r H.w = H := by unfold gRe; rw [if_pos ⟨hf2, t2⟩, t1]
        rw [ek5, eg5] at z5
        rw [ek, eg] at z3 z4
        have c1 := s_impl_GridFault (reG H r w) u2
        rw [u1] at c1
        have c2 := s_SameGrids H (mid_small hH)
        have c3 := s_SameGrids (reG H r w) u2
        generalize reG H r w = R at *
        by_cases hk : k1 = 0
        · have h := h hk
          subst hk
          simp (maxSteps := 800000) -implicitDefEqProofs [-icall_eq, X_laws_FnShifts, retK_eq, cutK_eq, c0, h0, e1, e2, z1, z2, z3, z4, z5, c1, c2, c3, h]
        · simp (maxSteps := 800000) -implicitDefEqProofs [-icall_eq, X_laws_FnShifts, retK_eq, cutK_eq, c0, h0, e1, e2, z1, z2, z3, z4, z5, c1, c2, c3, hk]
      · have ek : kRe H r w ≠ 0 := by
          unfold kRe
          split
          · rename_i hf
            rw [if_neg (fun ho => hf2 ⟨hf, ho⟩)]
            decide
          · assumption
        generalize kRe H r w = k2 at *
        generalize gRe H r w = R at *
        by_cases hk : k1 = 0
        · have h := h hk
          subst hk
          simp (maxSteps := 800000) -implicitDefEqProofs [-icall_eq, X_laws_FnShifts, retK_eq, cutK_eq, c0, h0, e1, e2, z1, z2, z3, z4, ek, h]
        · simp (maxSteps := 800000) -implicitDefEqProofs [-icall_eq, X_laws_FnShifts, retK_eq, cutK_eq, c0, h0, e1, e2, z1, z2, z3, z4, ek, hk]
    refine key _ _ z1 z2 fun hk => ?_
    have hk' := hk
    unfold kSh at hk
    split at hk
    · rename_i hf
      split at hk
      · rename_i ho
        have eg : gSh g y x n z = shG g y x n z := by unfold gSh; rw [if_pos ⟨hf, ho⟩]
        rw [hk', eg]
        obtain ⟨q1, q2, q3, q4, _⟩ := grid_facts hf
        have h6 : g.r.toNat ≤ 6 := by omega
        have hq6 : 50 * g.r.toNat + 500 < QQ := by
          have := QQ_big
          omega
        exact l_FnShifts0 l hl g (shG g y x n z) y x n z rfl hf ho g.r.toNat 0 QQ (by omega) hq6
      · cases hk
    · rename_i hf
      exact absurd hk hf
def good : List Nat := [2, 42, 5]
theorem good_ok : goodB CT good = true := by kernel_rfl
theorem all_FnShifts : ∀ xs, TypedAll CT [42] xs → Fz CT 9 xs (.bool true)
  | [a], h => by
    obtain ⟨l, rfl, _, hb⟩ := typed_code (s := 42) (e := 5) h.1 rfl rfl rfl
    exact fz_law ok_X_laws_FnShifts (s_FnShifts l hb) (by simp)
  | [], h => h.elim
  | _ :: _ :: _, h => h.2.elim
end Go.Ab
