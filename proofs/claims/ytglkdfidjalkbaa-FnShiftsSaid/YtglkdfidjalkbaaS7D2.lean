/- What the functions of the program answer, for all arguments that the theorems name as conditions. -/
import Derived.Test.YtglkdfidjalkbaaS7D1
import Derived.Test.YtglkdfidjalkbaaS7G25b
namespace Go.Ab
set_option linter.unusedSimpArgs false
set_option linter.unusedVariables false
set_option maxHeartbeats 4000000

/-! ## Grids that are drawn -/
def dcC (l : List Int) (a : Int) : CellT := ⟨pk l a [97, 98, 32, 228], pk l (a + 1) [0, 7, 12, 31]⟩
theorem s_l3DrawCell (l : List Int) (a : Int) (hl : bytesOk l) (ha : atOk a) (ha1 : atOk (a + 1)) : X_spec_l3DrawCell [pt 0] [srcM l a] = some (celV (dcC l a), [srcM l (a + 2)]) := by
  have h1 := s_pick4 l a 97 98 32 228 hl ha
  have h2 := s_pick4 l (a + 1) 0 7 12 31 hl ha1
  rw [show a + 1 + 1 = a + 2 by omega] at h2
  simp -implicitDefEqProofs [X_spec_l3DrawCell, retK_eq, h1, h2, dcC]
theorem apL_none {m : Mem} {sz bytes n k c : Nat} (h0 : 0 < n) (h1 : n < 1000000000) (hb : bytes ≤ 100000) : apL m sz bytes (.slice none 0 0) (.slice (some ⟨k, 0, none⟩) n c) = bo (fun cs => some (.slice (some ⟨m.length, 0, none⟩) n n, m ++ [⟨cs, sz, true, true⟩])) (rdM m[k]? 0 (n * sz)) := by
  have h2 : n * bytes ≤ 140737488355328 := Nat.le_trans (Nat.mul_le_mul (Nat.le_of_lt h1) hb) (by omega)
  show (ob (rd m k 0 (n * sz)) fun cs => appendIn m sz bytes (.slice none 0 0) cs n) = _
  rw [rd_rdM]
  cases rdM m[k]? 0 (n * sz) with
  | none => rfl
  | some cs =>
    rw [ob_some, bo_some]
    unfold appendIn
    rw [if_neg (by omega), if_pos ⟨h2, by omega⟩]
    rfl
/-- Nothing at all, or cells in a block. -/
def BN (l : List CellT) (a : Nat) (v : Value) (m : Mem) : Prop := (v = .slice none 0 0 ∧ m = [] ∧ l = []) ∨ (v = slO a l.length ∧ m = [ownB eC l] ∧ l ≠ [])
abbrev gz0 : Blk := blk [.int .i64 0, .int .i64 0, .slice none 0 0, .slice none 0 0]
theorem l_l3Draw1 (l : List Int) (hl : bytesOk l) (r w : Int) (cs : List CellT) :
    ∀ (d q : Nat) (a : Int) (bk : List CellT) (bv : Value) (bm : Mem), d < q → 0 ≤ a → a + 2 * d < 1000000000 → bk.length + d < 1000000 → BN bk 4 bv bm → ∃ bk' bv' bm', BN bk' 2 bv' bm' ∧ bk'.length = bk.length + d ∧ L_spec_l3Draw 1 q 1 [pt 0, pt 1, pt 2, .int .i64 d] (srcM l a :: gz0 :: blk [.int .i64 r, .int .i64 w, slO 3 cs.length, bv] :: ownB eC cs :: bm) = some (.agg #[.int .i64 r, .int .i64 w, slO 1 cs.length, bv'], srcM l (a + 2 * d) :: ownB eC cs :: bm') := by
  intro d
  induction d with
  | zero =>
    intro q a bk bv bm hq ha0 ha hd hb
    obtain ⟨q, rfl⟩ : ∃ n, q = n + 1 := ⟨q - 1, by omega⟩
    rcases hb with ⟨rfl, rfl, h⟩ | ⟨rfl, rfl, h⟩
    · refine ⟨bk, _, _, .inl ⟨rfl, rfl, h⟩, rfl, ?_⟩
      simp (maxSteps := 400000) -implicitDefEqProofs [L_spec_l3Draw, retK_eq]
    · refine ⟨bk, _, _, .inr ⟨rfl, rfl, h⟩, rfl, ?_⟩
      simp (maxSteps := 400000) -implicitDefEqProofs [L_spec_l3Draw, retK_eq]
  | succ d ih =>
    intro q a bk bv bm hq ha0 ha hd hb
    obtain ⟨q, rfl⟩ : ∃ n, q = n + 1 := ⟨q - 1, by omega⟩
    have hc := s_l3DrawCell l a hl ⟨by omega, by omega⟩ ⟨by omega, by omega⟩
    obtain ⟨bk', bv', bm', hb', hbl, h⟩ := ih q (a + 2) (bk ++ [dcC l a]) (slO 4 (bk ++ [dcC l a]).length) [ownB eC (bk ++ [dcC l a])] (by omega) (by omega) (by omega) (by simp; omega) (.inr ⟨rfl, rfl, by simp⟩)
    refine ⟨bk', bv', bm', hb', by rw [hbl]; simp; omega, ?_⟩
    rw [show a + 2 + 2 * (d : Int) = a + 2 * ((d + 1 : Nat) : Int) by push_cast; omega] at h
    generalize dcC l a = c at *
    have p1 := fun m k => apL_none (m := m) (sz := 2) (bytes := 16) (n := 1) (k := k) (c := 1) (by omega) (by omega) (by omega)
    have p2 := fun m n k cc => apL_sl (m := m) (sz := 2) (bytes := 16) (n := n) (o := 0) (len := bk.length) (c := cc) (n2 := k) (o2 := 0) (len2 := 1) (c2 := 1) (by omega) (by omega)
    have p3 := fun m n cs k => apB_own (E := eC) (m := m) (l := bk) (n := n) (sz := 2) (cs := cs) (k := k) rfl
    have p4 : rdM (some ⟨[.int .i64 c.c, .int .i64 c.a], 2, true, true⟩) 0 2 = some [.int .i64 c.c, .int .i64 c.a] := rfl
    have hk : (⟨cellsE eC bk ++ [.int .i64 c.c, .int .i64 c.a], 2, true, true⟩ : Blk) = ownB eC (bk ++ [c]) := by
      rw [← mk_own2 eC _ _ 2 rfl]
      rfl
    have hk0 : (⟨[.int .i64 c.c, .int .i64 c.a], 2, true, true⟩ : Blk) = ownB eC [c] := rfl
    have hw : IntKind.i64.wrap (d : Int) = d := wrap_i64 (by omega) (by omega)
    have hd0 : (0 : Int) < (d : Int) + 1 := by omega
    rcases hb with ⟨rfl, rfl, rfl⟩ | ⟨rfl, rfl, h0⟩
    · simp at h
      simp (maxSteps := 400000) -implicitDefEqProofs [L_spec_l3Draw, retK_eq, cutK_eq, hd0, hw, hc, p1, p4, hk0, h]
    · simp at h
      simp (maxSteps := 400000) -implicitDefEqProofs [L_spec_l3Draw, retK_eq, cutK_eq, hd0, hw, hc, p2, p3, p4, hk, h]
theorem l_l3Draw0 (l : List Int) (hl : bytesOk l) (r w : Int) (hw : 0 ≤ w ∧ w ≤ 100) :
    ∀ (d q i : Nat) (a : Int) (cs : List CellT), d + i = cs.length → d + 1000 < q → 0 ≤ a → a + 3 * d + 1000 < 1000000000 → cs.length < 1000000 → ∃ cs' bk' bv' bm' a', BN bk' 2 bv' bm' ∧ bk'.length ≤ 400 ∧ cs'.length = cs.length ∧ a ≤ a' ∧ a' ≤ a + 3 * d + 1000 ∧ L_spec_l3Draw 1 q 0 [pt 0, pt 1, pt 2, .int .i64 i] [srcM l a, gz0, blk [.int .i64 r, .int .i64 w, slO 3 cs.length, .slice none 0 0], ownB eC cs] = some (.agg #[.int .i64 r, .int .i64 w, slO 1 cs.length, bv'], srcM l a' :: ownB eC cs' :: bm') := by
  intro d
  induction d with
  | zero =>
    intro q i a cs hd hq ha0 ha hcl
    obtain ⟨q, rfl⟩ : ∃ n, q = n + 1 := ⟨q - 1, by omega⟩
    have hn := s_l1Next l a 4 hl ⟨by omega, by omega⟩
    have hb := nx_bd hl (a := a) (n := 4) ⟨by omega, by omega⟩ (by omega)
    obtain ⟨N, hN⟩ := Int.eq_ofNat_of_zero_le (Int.mul_nonneg hb.1 hw.1)
    have hN4 : (N : Int) ≤ 4 * 100 := by rw [← hN]; exact Int.mul_le_mul (by omega) hw.2 hw.1 (by omega)
    have h0 : ¬ (i : Int) < (cs.length : Int) := by omega
    have h0' : ¬ i < cs.length := by omega
    have hwr : IntKind.i64.wrap (nx l a 4 * w) = (N : Nat) := by rw [hN, wrap_i64 (by omega) (by omega)]
    obtain ⟨bk', bv', bm', hb', hbl, h⟩ := l_l3Draw1 l hl r w cs N q (a + 1) [] (.slice none 0 0) [] (by omega) (by omega) (by omega) (by simp; omega) (.inl ⟨rfl, rfl, rfl⟩)
    refine ⟨cs, bk', bv', bm', a + 1 + 2 * N, hb', by rw [hbl]; simp; omega, rfl, by omega, by omega, ?_⟩
    generalize nx l a 4 = v at *
    simp (maxSteps := 400000) -implicitDefEqProofs [L_spec_l3Draw, retK_eq, cutK_eq, h0, h0', hn, hwr, h]
  | succ d ih =>
    intro q i a cs hd hq ha0 ha hcl
    obtain ⟨q, rfl⟩ : ∃ n, q = n + 1 := ⟨q - 1, by omega⟩
    have hn := s_l1Chance l a 2 hl ⟨by omega, by omega⟩
    have hc := s_l3DrawCell l (a + 1) hl ⟨by omega, by omega⟩ ⟨by omega, by omega⟩
    rw [show a + 1 + 2 = a + 3 by omega] at hc
    have h0 : (i : Int) < (cs.length : Int) := by omega
    have h0' : i < cs.length := by omega
    have hw1 := wrap_next (n := i) (by omega)
    have hx := fun n o cc => ixa_sl (sz := 2) .i64 (n := n) (o := o) (len := cs.length) (c := cc) (j := (i : Int)) (by omega) (by omega)
    simp only [Int.toNat_natCast] at hx
    cases hch : (nx l a 2 == 0)
    · obtain ⟨cs', bk', bv', bm', a', hb', hbl, hcl', ha1, ha2, h⟩ := ih q (i + 1) (a + 1) cs (by omega) (by omega) (by omega) (by omega) hcl
      refine ⟨cs', bk', bv', bm', a', hb', hbl, hcl', by omega, by omega, ?_⟩
      rw [hch] at hn
      simp at h
      simp (maxSteps := 400000) -implicitDefEqProofs [L_spec_l3Draw, retK_eq, cutK_eq, h0, h0', hn, hw1, h]
    · obtain ⟨cs', bk', bv', bm', a', hb', hbl, hcl', ha1, ha2, h⟩ := ih q (i + 1) (a + 3) (cs.set i (dcC l (a + 1))) (by simp; omega) (by omega) (by omega) (by omega) (by simpa using hcl)
      rw [List.length_set] at hcl' h
      refine ⟨cs', bk', bv', bm', a', hb', hbl, hcl', by omega, by omega, ?_⟩
      rw [hch] at hn
      have hy := lay_setC cs i (dcC l (a + 1)) h0'
      generalize dcC l (a + 1) = c at *
      have b1 : i * 2 + 2 ≤ cs.length * 2 := by omega
      simp at h
      simp (maxSteps := 400000) -implicitDefEqProofs [L_spec_l3Draw, retK_eq, cutK_eq, h0, h0', hn, hw1, hc, hx, hy, h, b1]
theorem mem4 {x a b c d : Int} (h : x ∈ [a, b, c, d]) : x = a ∨ x = b ∨ x = c ∨ x = d := by simpa using h
theorem mem3 {x a b c : Int} (h : x ∈ [a, b, c]) : x = a ∨ x = b ∨ x = c := by simpa using h
theorem s_l3Draw (l : List Int) (a : Int) (hl : bytesOk l) (ha0 : 0 ≤ a) (ha : a < 100000000) : ∃ (r w : Int) (cs bk : List CellT) (bv : Value) (bm : Mem) (a' : Int), BN bk 2 bv bm ∧ bk.length ≤ 400 ∧ cs.length ≤ 100 ∧ 0 < cs.length ∧ 2 ≤ w ∧ w ≤ 10 ∧ a ≤ a' ∧ a' ≤ a + 10000 ∧ X_spec_l3Draw [pt 0] [srcM l a] = some (.agg #[.int .i64 r, .int .i64 w, slO 1 cs.length, bv], srcM l a' :: ownB eC cs :: bm) := by
  have h1 := s_l1Next l a 4 hl ⟨by omega, by omega⟩
  have b1 := nx_bd hl (a := a) (n := 4) ⟨by omega, by omega⟩ (by omega)
  have h2 := s_pick4 l (a + 1) 2 3 4 6 hl ⟨by omega, by omega⟩
  have b2 := mem4 (pk_mem hl (a := a + 1) (xs := [2, 3, 4, 6]) ⟨by omega, by omega⟩ (by simp))
  obtain ⟨R, hR⟩ := Int.eq_ofNat_of_zero_le (show 0 ≤ 1 + nx l a 4 by omega)
  obtain ⟨W, hW⟩ := Int.eq_ofNat_of_zero_le (show 0 ≤ pk l (a + 1) [2, 3, 4, 6] by omega)
  have m1 : R * W ≤ 4 * 6 := Nat.mul_le_mul (by omega) (by omega)
  have m2 : 1 * 2 ≤ R * W := Nat.mul_le_mul (by omega) (by omega)
  have h3 := s_spec_l3New R W (by omega)
  obtain ⟨cs', bk', bv', bm', a', hb', hbl, hcl', ha1, ha2, h⟩ := l_l3Draw0 l hl R W ⟨by omega, by omega⟩ (R * W) QQ 0 (a + 2) (List.replicate (R * W) bl0) (by simp) (by unfold QQ; omega) (by omega) (by omega) (by simp; omega)
  rw [List.length_replicate] at hcl' h
  refine ⟨R, W, cs', bk', bv', bm', a', hb', hbl, by omega, by omega, by omega, by omega, by omega, by omega, ?_⟩
  rw [show a + 1 + 1 = a + 2 by omega] at h2
  have w1 : IntKind.i64.wrap (1 + nx l a 4) = (R : Nat) := by rw [hR, wrap_i64 (by omega) (by omega)]
  rw [hW] at h2
  rw [hcl']
  generalize R * W = N at *
  rcases hb' with ⟨rfl, rfl, _⟩ | ⟨rfl, rfl, _⟩
  · simp at h
    simp (maxSteps := 400000) -implicitDefEqProofs [X_spec_l3Draw, retK_eq, cutK_eq, h1, h2, h3, w1, h]
  · simp at h
    simp (maxSteps := 400000) -implicitDefEqProofs [X_spec_l3Draw, retK_eq, cutK_eq, h1, h2, h3, w1, h]
end Go.Ab
