/- What the functions of the program answer, for all arguments that the theorems name as conditions. -/
import Derived.Test.YtkoahogalplhhaaS1Q2
import Derived.Test.YtkoahogalplhhaaS1E1
namespace Go.Ab
set_option linter.unusedSimpArgs false
set_option linter.unusedVariables false
set_option maxHeartbeats 40000000

/-! ## Draws of bytes, decoders, characters -/
theorem s_pick8 (l : List Int) (a x0 x1 x2 x3 x4 x5 x6 x7 : Int) (hl : bytesOk l) (ha : atOk a) : X_spec_l1Pick [pt 0, .slice (some ⟨1, 0, none⟩) 8 8] [srcM l a, ⟨[.int .i64 x0, .int .i64 x1, .int .i64 x2, .int .i64 x3, .int .i64 x4, .int .i64 x5, .int .i64 x6, .int .i64 x7], 1, true, true⟩] = some (.int .i64 (pk l a [x0, x1, x2, x3, x4, x5, x6, x7]), [srcM l (a + 1), ⟨[.int .i64 x0, .int .i64 x1, .int .i64 x2, .int .i64 x3, .int .i64 x4, .int .i64 x5, .int .i64 x6, .int .i64 x7], 1, true, true⟩]) := s_pickG l a [x0, x1, x2, x3, x4, x5, x6, x7] hl ha (by simp)
theorem s_pick9 (l : List Int) (a x0 x1 x2 x3 x4 x5 x6 x7 x8 : Int) (hl : bytesOk l) (ha : atOk a) : X_spec_l1Pick [pt 0, .slice (some ⟨1, 0, none⟩) 9 9] [srcM l a, ⟨[.int .i64 x0, .int .i64 x1, .int .i64 x2, .int .i64 x3, .int .i64 x4, .int .i64 x5, .int .i64 x6, .int .i64 x7, .int .i64 x8], 1, true, true⟩] = some (.int .i64 (pk l a [x0, x1, x2, x3, x4, x5, x6, x7, x8]), [srcM l (a + 1), ⟨[.int .i64 x0, .int .i64 x1, .int .i64 x2, .int .i64 x3, .int .i64 x4, .int .i64 x5, .int .i64 x6, .int .i64 x7, .int .i64 x8], 1, true, true⟩]) := s_pickG l a [x0, x1, x2, x3, x4, x5, x6, x7, x8] hl ha (by simp)
theorem l_l1Some (l : List Int) (hl : bytesOk l) (n : Nat) : ∀ (out : List Int) (a : Int) (q : Nat), 0 ≤ a → a + 2 * (n : Int) ≤ 1000 → n < q → out.length + n ≤ 20 → ∃ (bs : List Int), bs.length = n ∧ (∀ x ∈ bs, 0 ≤ x ∧ x < 256) ∧ L_spec_l1Some 1 q 0 [pt 0, .int .i64 n, slO 1 out.length] [srcM l a, ownB eU8 out] = some (slO 1 (out ++ bs).length, [srcM l (a + 2 * n), ownB eU8 (out ++ bs)]) := by
  induction n with
  | zero =>
    intro out a q h0 h1 hq hn
    obtain ⟨q, rfl⟩ : ∃ n, q = n + 1 := ⟨q - 1, by omega⟩
    refine ⟨[], rfl, by simp, ?_⟩
    simp -implicitDefEqProofs [L_spec_l1Some, retK_eq]
  | succ n ih =>
    intro out a q h0 h1 hq hn
    obtain ⟨q, rfl⟩ : ∃ n, q = n + 1 := ⟨q - 1, by omega⟩
    have n1 := s_l1Next l a 256 hl ⟨by omega, by omega⟩
    have nb := nx_bd hl (a := a) (n := 256) ⟨by omega, by omega⟩ (by omega)
    have k1 := fun x0 x1 x2 x3 x4 x5 x6 x7 => s_pick8 l (a + 1) x0 x1 x2 x3 x4 x5 x6 x7 hl ⟨by omega, by omega⟩
    have hm := pk_mem hl (a := a + 1) ⟨by omega, by omega⟩ (xs := [97, 98, nx l a 256, 27, 91, 10, 195, 164]) (by simp)
    have hb : 0 ≤ pk l (a + 1) [97, 98, nx l a 256, 27, 91, 10, 195, 164] ∧ pk l (a + 1) [97, 98, nx l a 256, 27, 91, 10, 195, 164] < 256 := by
      simp only [List.mem_cons, List.not_mem_nil, or_false] at hm
      omega
    have hv : IntKind.u8.wrap (pk l (a + 1) [97, 98, nx l a 256, 27, 91, 10, 195, 164]) = pk l (a + 1) [97, 98, nx l a 256, 27, 91, 10, 195, 164] := wrap_u8' hb.1 hb.2
    have hw : IntKind.i64.wrap ((n : Int) + 1 - 1) = n := by
      rw [show (n : Int) + 1 - 1 = n by omega]
      exact wrap_i64 (by omega) (by omega)
    have hw2 : IntKind.i64.wrap (n : Int) = n := wrap_i64 (by omega) (by omega)
    obtain ⟨bs, b1, b2, b3⟩ := ih (out ++ [pk l (a + 1) [97, 98, nx l a 256, 27, 91, 10, 195, 164]]) (a + 1 + 1) q (by omega) (by push_cast at h1; omega) (by omega) (by simp; omega)
    refine ⟨pk l (a + 1) [97, 98, nx l a 256, 27, 91, 10, 195, 164] :: bs, by simp [b1], ?_, ?_⟩
    · intro x hx
      rcases List.mem_cons.1 hx with rfl | hx
      · exact hb
      · exact b2 x hx
    have p3 := fun m n cs k => apB_own (E := eU8) (m := m) (l := out) (n := n) (sz := 1) (cs := cs) (k := k) rfl
    have p1 := fun m n o c k o2 c2 => apL_sl (m := m) (sz := 1) (bytes := 1) (n := n) (o := o) (len := out.length) (c := c) (n2 := k) (o2 := o2) (len2 := 1) (c2 := c2) (by omega) (by omega)
    have p4 : ∀ x, rdM (some ⟨[.int .u8 x], 1, true, true⟩) 0 1 = some [.int .u8 x] := fun x => rfl
    have k2 : ∀ x, (⟨cellsE eU8 out ++ [.int .u8 x], 1, true, true⟩ : Blk) = ownB eU8 (out ++ [x]) := fun x => by
      rw [← mk_own2 eU8 _ _ 1 rfl]
      rfl
    have g : (0 : Int) < n + 1 := by omega
    have e : a + 1 + 1 + 2 * (n : Int) = a + 2 * (n + 1) := by omega
    simp [e] at b3
    simp (maxSteps := 1000000) -implicitDefEqProofs [L_spec_l1Some, retK_eq, cutK_eq, g, n1, k1, hv, hw, hw2, p1, p3, p4, k2, b3]
theorem s_l1Some (l : List Int) (hl : bytesOk l) (n a : Int) (h0 : 0 ≤ a) (h1 : a ≤ 900) (hn0 : 0 ≤ n) (hn : n ≤ 12) : ∃ (bs : List Int) (b : Int), bs.length ≤ 12 ∧ (∀ x ∈ bs, 0 ≤ x ∧ x < 256) ∧ a ≤ b ∧ b ≤ a + 24 ∧ X_spec_l1Some [pt 0, .int .i64 n] [srcM l a] = some (slO 1 bs.length, [srcM l b, ownB eU8 bs]) := by
  obtain ⟨N, rfl⟩ := Int.eq_ofNat_of_zero_le hn0
  obtain ⟨bs, b1, b2, b3⟩ := l_l1Some l hl N [] a QQ h0 (by omega) (by unfold QQ; omega) (by simp; omega)
  have e0 : (⟨[], 1, true, true⟩ : Blk) = ownB eU8 [] := rfl
  refine ⟨bs, a + 2 * N, by omega, b2, by omega, by omega, ?_⟩
  simp at b3
  simp (maxSteps := 1000000) -implicitDefEqProofs [X_spec_l1Some, retK_eq, cutK_eq, e0, b3]
abbrev dZ : Blk := blk [.int .i64 0, .int .i64 0, .int .i64 0]
abbrev dBk (d : DecT) : Blk := blk [.int .i64 d.l, .int .i64 d.w, .int .i64 d.v]
def DdR (l : List Int) (a : Int) (r : Option VM) : Prop := ∃ (d : DecT) (b : Int), a ≤ b ∧ b ≤ a + 2 ∧ r = some (decV d, [srcM l b])
theorem l_l1Draw (l : List Int) (hl : bytesOk l) (a : Int) (h0 : 0 ≤ a) (h1 : a ≤ 900) (r : List Int) : ∀ (p : List Int) (d : DecT) (q : Nat), decB d = true → (∀ x ∈ r, 0 ≤ x ∧ x < 256) → (p ++ r).length ≤ 20 → r.length < q → DdR l a (L_spec_l1Draw 1 q 0 [pt 0, pt 1, pt 2, slO 3 (p ++ r).length, .int .i64 p.length] [srcM l a, dZ, dBk d, ownB eU8 (p ++ r)]) := by
  induction r with
  | nil =>
    intro p d q hd hb hlen hq
    obtain ⟨q, rfl⟩ : ∃ n, q = n + 1 := ⟨q - 1, by omega⟩
    have n2 := s_l1Next l a 14 hl ⟨by omega, by omega⟩
    have k1 := fun x y z u v => s_pick5 l (a + 1) x y z u v hl ⟨by omega, by omega⟩
    have k2 := fun x y z u v w t => s_pick7 l (a + 1) x y z u v w t hl ⟨by omega, by omega⟩
    by_cases c0 : nx l a 14 = 0
    · rw [c0] at n2
      refine ⟨⟨pk l (a + 1) [-1, 0, 1, 2, 3], d.w, d.v⟩, a + 1 + 1, by omega, by omega, ?_⟩
      simp (maxSteps := 1000000) -implicitDefEqProofs [L_spec_l1Draw, retK_eq, cutK_eq, n2, k1]
    by_cases c1 : nx l a 14 = 1
    · rw [c1] at n2
      refine ⟨⟨d.l, d.w, pk l (a + 1) [0, 2, 15, 16, 31, 1023, 1024]⟩, a + 1 + 1, by omega, by omega, ?_⟩
      simp (maxSteps := 1000000) -implicitDefEqProofs [L_spec_l1Draw, retK_eq, cutK_eq, n2, k2]
    · refine ⟨d, a + 1, by omega, by omega, ?_⟩
      simp (maxSteps := 1000000) -implicitDefEqProofs [L_spec_l1Draw, retK_eq, cutK_eq, n2, c0, c1]
  | cons x r ih =>
    intro p d q hd hb hlen hq
    obtain ⟨q, rfl⟩ : ∃ n, q = n + 1 := ⟨q - 1, by omega⟩
    have hx0 := hb x (by simp)
    have hh := s_spec_l1Step d x hd hx0
    obtain ⟨s1, s2⟩ := step_dec hd hx0
    have h := ih (p ++ [x]) (stepD d x).2 q s1 (fun y hy => hb y (by simp [hy])) (by simpa using hlen) (by simp at hq; omega)
    have hl' : p.length + (r.length + 1) ≤ 20 := by simpa using hlen
    have hw := wrap_next (n := p.length) (by omega)
    have hv : IntKind.i64.wrap x = x := wrap_i64 (by omega) (by omega)
    have hy := cellI .u8 (p ++ x :: r) p.length (by simp)
    have hg : gt (p ++ x :: r) p.length = x := by simp [gt]
    rw [hg] at hy
    have hz := fun n o cc => ixa_sl (sz := 1) .i64 (n := n) (o := o) (len := (p ++ x :: r).length) (c := cc) (j := (p.length : Int)) (by omega) (by simp <;> omega)
    simp only [Int.toNat_natCast] at hz
    simp at h hy hz
    generalize stepD d x = st at *
    obtain ⟨cs, d2⟩ := st
    simp only at *
    simpa (config := { maxSteps := 1000000 }) -implicitDefEqProofs [L_spec_l1Draw, retK_eq, cutK_eq, hy, hz, hw, hv, hh] using h
theorem s_l1Draw (l : List Int) (hl : bytesOk l) (a : Int) (h0 : 0 ≤ a) (h1 : a ≤ 100) : ∃ (d : DecT) (b : Int), a ≤ b ∧ b ≤ a + 50 ∧ X_spec_l1Draw [pt 0] [srcM l a] = some (decV d, [srcM l b]) := by
  have n1 := s_l1Next l a 3 hl ⟨by omega, by omega⟩
  have nb := nx_bd hl (a := a) (n := 3) ⟨by omega, by omega⟩ (by omega)
  obtain ⟨bs, b, b1, b2, b3, b4, b5⟩ := s_l1Some l hl (nx l a 3) (a + 1) (by omega) (by omega) nb.1 (by omega)
  obtain ⟨d, c, c1, c2, h⟩ := l_l1Draw l hl b (by omega) (by omega) bs [] dec0 QQ (by decide) b2 (by simp; omega) (by unfold QQ; omega)
  refine ⟨d, c, by omega, by omega, ?_⟩
  simp [dec0] at h
  simp (maxSteps := 1000000) -implicitDefEqProofs [X_spec_l1Draw, retK_eq, cutK_eq, n1, b5, h]
end Go.Ab
