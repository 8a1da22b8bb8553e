/- What the functions of the program answer, for all arguments that the theorems name as conditions. -/
import Derived.Test.YtkfbpdbopkdnjaaS9Q6
import Derived.Test.YtkfbpdbopkdnjaaS9Q4
import Derived.Test.YtkfbpdbopkdnjaaS9Q5
namespace Go.Ab
set_option linter.unusedSimpArgs false
set_option linter.unusedVariables false
set_option maxHeartbeats 40000000

/-! ## Frozen answers: what is drawn, decoded, encoded -/
theorem mk_zeros (kk : IntKind) (n by' : Nat) (h : n < 1000000000) (hb : by' ≤ 200000) : ∃ R : List Int, R.length = n ∧ (∀ x ∈ R, x = 0) ∧ ∀ m, mkX m 1 by' [.int kk 0] (.int .i64 n) (.int .i64 n) = some (slO m.length n, m ++ [ownB (eI kk) R]) := by
  refine ⟨List.replicate n 0, by simp, fun x hx => List.eq_of_mem_replicate hx, fun m => ?_⟩
  rw [mkX_nat m 1 by' _ n h hb]
  have := flat_rep (eI kk) n 0
  rw [show (eI kk).f 0 = [.int kk 0] from rfl] at this
  rw [this]
  rfl
theorem d_DecodeMany (l : List Int) (hl : bytesOk l) (m : Mem) : ∃ (d : DecT) (data : List Int), data.length ≤ 2001 ∧ (∀ x ∈ data, 0 ≤ x ∧ x < 256) ∧ icall X_spec_DrawDecodeMany [frS eU8 l] m = some (.tuple #[decV d, frS eU8 data], m) := by
  obtain ⟨d, a, a0, a1, h⟩ := s_l1Draw l hl 0 (by omega) (by omega)
  have n1 := s_l1Chance l a 40 hl ⟨by omega, by omega⟩
  have n2 := s_l1Next l (a + 1) 12 hl ⟨by omega, by omega⟩
  have nb := nx_bd hl (a := a + 1) (n := 12) ⟨by omega, by omega⟩ (by omega)
  by_cases c : nx l a 40 = 0
  · obtain ⟨R, r1, r2, r3⟩ := mk_zeros .u8 2001 1 (by omega) (by omega)
    refine ⟨d, R, by omega, fun x hx => ?_, icall_all ?_ m⟩
    · have := r2 x hx
      omega
    · have f := fun k m => fzO_own eU8 k m R
      rw [r1] at f
      rw [c] at n1
      simp only [Int.cast_ofNat_Int] at r3
      simp (maxSteps := 1000000) -implicitDefEqProofs [X_spec_DrawDecodeMany, retK_eq, s_l1Source, h, n1, r3, f]
  · obtain ⟨bs, b, b1, b2, b3, b4, b5⟩ := s_l1Some l hl (nx l (a + 1) 12) (a + 1 + 1) (by omega) (by omega) nb.1 (by omega)
    refine ⟨d, bs, by omega, b2, icall_all ?_ m⟩
    simp (maxSteps := 1000000) -implicitDefEqProofs [X_spec_DrawDecodeMany, retK_eq, s_l1Source, h, n1, n2, c, b5]
theorem l_l1Chars (l : List Int) (hl : bytesOk l) (n : Nat) : ∀ (out : List Int) (a : Int) (q : Nat), 0 ≤ a → a + (n : Int) ≤ 1000 → n < q → out.length + n ≤ 20 → ∃ (bs : List Int), bs.length = n ∧ L_spec_l1Chars 1 q 0 [pt 0, slO 1 out.length, .int .i64 n] [srcM l a, ownB eI6 out] = some (slO 1 (out ++ bs).length, [srcM l (a + n), ownB eI6 (out ++ bs)]) := by
  induction n with
  | zero =>
    intro out a q h0 h1 hq hn
    obtain ⟨q, rfl⟩ : ∃ n, q = n + 1 := ⟨q - 1, by omega⟩
    refine ⟨[], rfl, ?_⟩
    simp -implicitDefEqProofs [L_spec_l1Chars, retK_eq]
  | succ n ih =>
    intro out a q h0 h1 hq hn
    obtain ⟨q, rfl⟩ : ∃ n, q = n + 1 := ⟨q - 1, by omega⟩
    have k1 := fun x0 x1 x2 x3 x4 x5 x6 x7 x8 => s_pick9 l a x0 x1 x2 x3 x4 x5 x6 x7 x8 hl ⟨by omega, by omega⟩
    have hw2 : IntKind.i64.wrap (n : Int) = n := wrap_i64 (by omega) (by omega)
    obtain ⟨bs, b1, b3⟩ := ih (out ++ [pk l a [97, 228, 8364, 127, 128, 2047, 2048, 65535, 10]]) (a + 1) q (by omega) (by push_cast at h1; omega) (by omega) (by simp; omega)
    refine ⟨pk l a [97, 228, 8364, 127, 128, 2047, 2048, 65535, 10] :: bs, by simp [b1], ?_⟩
    have p3 := fun m n cs k => apB_own (E := eI6) (m := m) (l := out) (n := n) (sz := 1) (cs := cs) (k := k) rfl
    have p1 := fun m n o c k o2 c2 => apL_sl (m := m) (sz := 1) (bytes := 8) (n := n) (o := o) (len := out.length) (c := c) (n2 := k) (o2 := o2) (len2 := 1) (c2 := c2) (by omega) (by omega)
    have p4 : ∀ x, rdM (some ⟨[.int .i64 x], 1, true, true⟩) 0 1 = some [.int .i64 x] := fun x => rfl
    have k2 : ∀ x, (⟨cellsE eI6 out ++ [.int .i64 x], 1, true, true⟩ : Blk) = ownB eI6 (out ++ [x]) := fun x => by
      rw [← mk_own2 eI6 _ _ 1 rfl]
      rfl
    have g : (0 : Int) < n + 1 := by omega
    have e : a + 1 + (n : Int) = a + (n + 1) := by omega
    simp [e] at b3
    simp (maxSteps := 1000000) -implicitDefEqProofs [L_spec_l1Chars, retK_eq, cutK_eq, g, k1, hw2, p1, p3, p4, k2, b3]
theorem s_l1Chars (l : List Int) (hl : bytesOk l) : ∃ (bs : List Int) (b : Int), bs.length ≤ 6 ∧ 0 ≤ b ∧ b ≤ 10 ∧ X_spec_l1Chars [pt 0] [srcM l 0] = some (slO 1 bs.length, [srcM l b, ownB eI6 bs]) := by
  have n1 := s_l1Next l 0 6 hl ⟨by omega, by omega⟩
  have nb := nx_bd hl (a := 0) (n := 6) ⟨by omega, by omega⟩ (by omega)
  obtain ⟨N, hN⟩ := Int.eq_ofNat_of_zero_le nb.1
  obtain ⟨bs, b1, b3⟩ := l_l1Chars l hl N [] 1 QQ (by omega) (by omega) (by unfold QQ; omega) (by simp; omega)
  have e0 : (⟨[], 1, true, true⟩ : Blk) = ownB eI6 [] := rfl
  refine ⟨bs, 1 + N, by omega, by omega, by omega, ?_⟩
  rw [hN] at n1
  simp at b3 n1
  simp (maxSteps := 1000000) -implicitDefEqProofs [X_spec_l1Chars, retK_eq, cutK_eq, n1, e0, b3]
theorem d_EncodeAll (l : List Int) (hl : bytesOk l) (m : Mem) : ∃ (list : List Int), list.length ≤ 401 ∧ icall X_spec_DrawEncodeAll [frS eU8 l] m = some (frS eI6 list, m) := by
  obtain ⟨bs, a, b1, a0, a1, h⟩ := s_l1Chars l hl
  have n1 := s_l1Next l a 12 hl ⟨by omega, by omega⟩
  have k1 := fun x y => s_pick2 l (a + 1) x y hl ⟨by omega, by omega⟩
  by_cases c0 : nx l a 12 = 0
  · have p3 := fun m n cs k => apB_own (E := eI6) (m := m) (l := bs) (n := n) (sz := 1) (cs := cs) (k := k) rfl
    have p1 := fun m n o c k o2 c2 => apL_sl (m := m) (sz := 1) (bytes := 8) (n := n) (o := o) (len := bs.length) (c := c) (n2 := k) (o2 := o2) (len2 := 1) (c2 := c2) (by omega) (by omega)
    have p4 : ∀ x, rdM (some ⟨[.int .i64 x], 1, true, true⟩) 0 1 = some [.int .i64 x] := fun x => rfl
    have k2 : ∀ x, (⟨cellsE eI6 bs ++ [.int .i64 x], 1, true, true⟩ : Blk) = ownB eI6 (bs ++ [x]) := fun x => by
      rw [← mk_own2 eI6 _ _ 1 rfl]
      rfl
    have f := fun k m => fzO_own eI6 k m (bs ++ [pk l (a + 1) [-1, 55296]])
    simp only [List.length_append, List.length_cons, List.length_nil, Nat.zero_add] at f
    refine ⟨bs ++ [pk l (a + 1) [-1, 55296]], by simp; omega, icall_all ?_ m⟩
    rw [c0] at n1
    simp (maxSteps := 1000000) -implicitDefEqProofs [X_spec_DrawEncodeAll, retK_eq, s_l1Source, h, n1, k1, p1, p3, p4, k2, f]
  by_cases c1 : nx l a 12 = 1
  · obtain ⟨R, r1, r2, r3⟩ := mk_zeros .i64 401 8 (by omega) (by omega)
    have f := fun k m => fzO_own eI6 k m R
    rw [r1] at f
    rw [c1] at n1
    simp only [Int.cast_ofNat_Int] at r3
    refine ⟨R, by omega, icall_all ?_ m⟩
    simp (maxSteps := 1000000) -implicitDefEqProofs [X_spec_DrawEncodeAll, retK_eq, s_l1Source, h, n1, r3, f]
  · refine ⟨bs, by omega, icall_all ?_ m⟩
    simp (maxSteps := 1000000) -implicitDefEqProofs [X_spec_DrawEncodeAll, retK_eq, s_l1Source, h, n1, c0, c1]
end Go.Ab
