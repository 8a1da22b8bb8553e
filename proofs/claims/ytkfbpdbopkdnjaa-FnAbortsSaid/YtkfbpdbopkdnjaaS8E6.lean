/- What the functions of the program answer, for all arguments that the theorems name as conditions. -/
import Derived.Test.YtkfbpdbopkdnjaaS8E3
import Derived.Test.YtkfbpdbopkdnjaaS8E4
import Derived.Test.YtkfbpdbopkdnjaaS8E4a
namespace Go.Ab
set_option linter.unusedSimpArgs false
set_option linter.unusedVariables false
set_option maxHeartbeats 40000000

/-! ## Parsers that are drawn -/
def DrR (l : List Int) (r : Option VM) : Prop := ∃ (p : ParT) (v : Value) (b : Int) (m : Mem), p.ns.length ≤ 10 ∧ 0 ≤ b ∧ b ≤ 1000 ∧ ((p.ns = [] ∧ v = nil0 ∧ m = []) ∨ (v = slO 1 p.ns.length ∧ m = [ownB eI6 p.ns])) ∧ r = some (parW p v, srcM l b :: m)
theorem apL_nil {m : Mem} {sz bytes n2 o2 k c2 : Nat} (h0 : k ≠ 0) (hk : k < 1000000000) (hb : bytes ≤ 100000) : apL m sz bytes (.slice none 0 0) (.slice (some ⟨n2, o2, none⟩) k c2) = bo (fun cs => some (.slice (some ⟨m.length, 0, none⟩) k k, m ++ [⟨cs, sz, true, true⟩])) (rdM m[n2]? o2 (k * sz)) := by
  have h2 : k * bytes ≤ 140737488355328 := Nat.le_trans (Nat.mul_le_mul (Nat.le_of_lt hk) hb) (by omega)
  show (ob (rd m n2 o2 (k * sz)) fun cs => appendIn m sz bytes (.slice none 0 0) cs k) = _
  rw [rd_rdM]
  cases rdM m[n2]? o2 (k * sz) with
  | none => rfl
  | some cs =>
    show (if k = 0 then some (Value.slice none 0 0, m) else if k * bytes ≤ 140737488355328 ∧ k ≤ 140737488355328 then some (Value.slice (some ⟨m.length, 0, none⟩) k k, m ++ [⟨cs, sz, true, true⟩]) else none) = _
    rw [if_neg h0, if_pos ⟨h2, by omega⟩]
    rfl
abbrev pB (p : ParT) (v : Value) : Blk := blk [.int .i64 p.k, .int .i64 p.s, .bool p.lead, v]
abbrev pZ : Blk := blk [.int .i64 0, .int .i64 0, .bool false, nil0]
theorem par_len {p : ParT} (h : parF p = 0) : p.ns.length ≤ 6 := by
  obtain ⟨k0, k1, k2, k3, k4⟩ := par_facts h
  by_cases hk : p.k = 2
  · exact (k2 hk).2.1
  · rw [(k1 hk).1]; simp
theorem x_l4Draw1 (l : List Int) (hl : bytesOk l) (cs : List Int) (p : ParT) (hp : parF p = 0) (hn : p.ns = []) (q i : Nat) (a : Int) (h0 : 0 ≤ a) (h1 : a ≤ 900) (hc : cs.length ≤ 100) (hi : ¬ (i : Int) < nx l a (cs.length + 1)) : DrR l (L_spec_l4Draw 1 (q + 1) 0 [pt 0, pt 1, pt 2, slO 3 cs.length, .int .i64 i] [srcM l a, pZ, pB p nil0, ownB eI6 cs]) := by
  have w1 : IntKind.i64.wrap ((cs.length : Int) + 1) = cs.length + 1 := wrap_i64 (by omega) (by omega)
  have n1 := s_l1Next l a (cs.length + 1) hl ⟨by omega, by omega⟩
  have n2 := s_l1Next l (a + 1) 14 hl ⟨by omega, by omega⟩
  have k1 := fun x y z u v => s_pick5 l (a + 1 + 1) x y z u v hl ⟨by omega, by omega⟩
  have k2 := fun x y z => s_pick3 l (a + 1 + 1) x y z hl ⟨by omega, by omega⟩
  have k3 := fun x y => s_pick2 l (a + 1 + 1) x y hl ⟨by omega, by omega⟩
  by_cases c0 : nx l (a + 1) 14 = 0
  · rw [c0] at n2
    refine ⟨⟨pk l (a + 1 + 1) [-1, 1, 2, 3, 4], p.s, p.lead, []⟩, nil0, a + 1 + 1 + 1, [], by simp, by omega, by omega, .inl ⟨rfl, rfl, rfl⟩, ?_⟩
    simp (maxSteps := 1000000) -implicitDefEqProofs [L_spec_l4Draw, retK_eq, cutK_eq, w1, n1, hi, n2, k1]
  by_cases c1 : nx l (a + 1) 14 = 1
  · rw [c1] at n2
    have e : (⟨[.int .i64 (pk l (a + 1 + 1) [0, 1000, -1])], 1, true, true⟩ : Blk) = ownB eI6 [pk l (a + 1 + 1) [0, 1000, -1]] := rfl
    have p1 := fun m n2 o2 c2 => apL_nil (m := m) (sz := 1) (bytes := 8) (n2 := n2) (o2 := o2) (k := 1) (c2 := c2) (by omega) (by omega) (by omega)
    have p4 : ∀ x, rdM (some ⟨[.int .i64 x], 1, true, true⟩) 0 1 = some [.int .i64 x] := fun x => rfl
    refine ⟨⟨p.k, p.s, p.lead, [pk l (a + 1 + 1) [0, 1000, -1]]⟩, slO 1 1, a + 1 + 1 + 1, _, by simp, by omega, by omega, .inr ⟨rfl, rfl⟩, ?_⟩
    simp (maxSteps := 1000000) -implicitDefEqProofs [L_spec_l4Draw, retK_eq, cutK_eq, w1, n1, hi, n2, k2, e, p1, p4]
  by_cases c2 : nx l (a + 1) 14 = 2
  · rw [c2] at n2
    refine ⟨⟨p.k, pk l (a + 1 + 1) [1, 3], p.lead, []⟩, nil0, a + 1 + 1 + 1, [], by simp, by omega, by omega, .inl ⟨rfl, rfl, rfl⟩, ?_⟩
    simp (maxSteps := 1000000) -implicitDefEqProofs [L_spec_l4Draw, retK_eq, cutK_eq, w1, n1, hi, n2, k3]
  · refine ⟨⟨p.k, p.s, p.lead, []⟩, nil0, a + 1 + 1, [], by simp, by omega, by omega, .inl ⟨rfl, rfl, rfl⟩, ?_⟩
    simp (maxSteps := 1000000) -implicitDefEqProofs [L_spec_l4Draw, retK_eq, cutK_eq, w1, n1, hi, n2, c0, c1, c2]
theorem x_l4Draw2 (l : List Int) (hl : bytesOk l) (cs : List Int) (p : ParT) (hp : parF p = 0) (q i : Nat) (a : Int) (h0 : 0 ≤ a) (h1 : a ≤ 900) (hc : cs.length ≤ 100) (hi : ¬ (i : Int) < nx l a (cs.length + 1)) : DrR l (L_spec_l4Draw 1 (q + 1) 0 [pt 0, pt 1, pt 2, slO 3 cs.length, .int .i64 i] [srcM l a, pZ, pB p (slO 4 p.ns.length), ownB eI6 cs, ownB eI6 p.ns]) := by
  have w1 : IntKind.i64.wrap ((cs.length : Int) + 1) = cs.length + 1 := wrap_i64 (by omega) (by omega)
  have n1 := s_l1Next l a (cs.length + 1) hl ⟨by omega, by omega⟩
  have n2 := s_l1Next l (a + 1) 14 hl ⟨by omega, by omega⟩
  have k1 := fun x y z u v => s_pick5 l (a + 1 + 1) x y z u v hl ⟨by omega, by omega⟩
  have k2 := fun x y z => s_pick3 l (a + 1 + 1) x y z hl ⟨by omega, by omega⟩
  have k3 := fun x y => s_pick2 l (a + 1 + 1) x y hl ⟨by omega, by omega⟩
  have hl6 := par_len hp
  by_cases c0 : nx l (a + 1) 14 = 0
  · rw [c0] at n2
    refine ⟨⟨pk l (a + 1 + 1) [-1, 1, 2, 3, 4], p.s, p.lead, p.ns⟩, slO 1 p.ns.length, a + 1 + 1 + 1, _, by simp; omega, by omega, by omega, .inr ⟨rfl, rfl⟩, ?_⟩
    simp (maxSteps := 1000000) -implicitDefEqProofs [L_spec_l4Draw, retK_eq, cutK_eq, w1, n1, hi, n2, k1]
  by_cases c1 : nx l (a + 1) 14 = 1
  · rw [c1] at n2
    have p1 := fun m n k cc => apL_sl (m := m) (sz := 1) (bytes := 8) (n := n) (o := 0) (len := p.ns.length) (c := cc) (n2 := k) (o2 := 0) (len2 := 1) (c2 := 1) (by omega) (by omega)
    have p3 := fun m n cs k => apB_own (E := eI6) (m := m) (l := p.ns) (n := n) (sz := 1) (cs := cs) (k := k) rfl
    have p4 : ∀ x, rdM (some ⟨[.int .i64 x], 1, true, true⟩) 0 1 = some [.int .i64 x] := fun x => rfl
    have hk : (⟨cellsE eI6 p.ns ++ [.int .i64 (pk l (a + 1 + 1) [0, 1000, -1])], 1, true, true⟩ : Blk) = ownB eI6 (p.ns ++ [pk l (a + 1 + 1) [0, 1000, -1]]) := by
      rw [← mk_own2 eI6 _ _ 1 rfl]
      rfl
    refine ⟨⟨p.k, p.s, p.lead, p.ns ++ [pk l (a + 1 + 1) [0, 1000, -1]]⟩, _, a + 1 + 1 + 1, _, by simp; omega, by omega, by omega, .inr ⟨rfl, rfl⟩, ?_⟩
    simp (maxSteps := 1000000) -implicitDefEqProofs [L_spec_l4Draw, retK_eq, cutK_eq, w1, n1, hi, n2, k2, p1, p3, p4, hk]
  by_cases c2 : nx l (a + 1) 14 = 2
  · rw [c2] at n2
    refine ⟨⟨p.k, pk l (a + 1 + 1) [1, 3], p.lead, p.ns⟩, slO 1 p.ns.length, a + 1 + 1 + 1, _, by simp; omega, by omega, by omega, .inr ⟨rfl, rfl⟩, ?_⟩
    simp (maxSteps := 1000000) -implicitDefEqProofs [L_spec_l4Draw, retK_eq, cutK_eq, w1, n1, hi, n2, k3]
  · refine ⟨⟨p.k, p.s, p.lead, p.ns⟩, slO 1 p.ns.length, a + 1 + 1, _, by simp; omega, by omega, by omega, .inr ⟨rfl, rfl⟩, ?_⟩
    simp (maxSteps := 1000000) -implicitDefEqProofs [L_spec_l4Draw, retK_eq, cutK_eq, w1, n1, hi, n2, c0, c1, c2]
theorem l_l4Draw (l : List Int) (hl : bytesOk l) (r : List Int) : ∀ (c : List Int) (p : ParT) (q : Nat) (a : Int), seqOk (c ++ r) → parF p = 0 → 0 ≤ a → a + r.length ≤ 900 → r.length < q → (p.ns = [] → DrR l (L_spec_l4Draw 1 q 0 [pt 0, pt 1, pt 2, slO 3 (c ++ r).length, .int .i64 c.length] [srcM l a, pZ, pB p nil0, ownB eI6 (c ++ r)])) ∧ DrR l (L_spec_l4Draw 1 q 0 [pt 0, pt 1, pt 2, slO 3 (c ++ r).length, .int .i64 c.length] [srcM l a, pZ, pB p (slO 4 p.ns.length), ownB eI6 (c ++ r), ownB eI6 p.ns]) := by
  induction r with
  | nil =>
    intro c p q a hc hp h0 h1 hq
    obtain ⟨q, rfl⟩ : ∃ n, q = n + 1 := ⟨q - 1, by omega⟩
    rw [List.append_nil] at hc ⊢
    have hb := nx_bd hl (a := a) (n := c.length + 1) ⟨by omega, by simp at h1; omega⟩ (by omega)
    exact ⟨fun hn => x_l4Draw1 l hl c p hp hn q c.length a h0 (by simp at h1; omega) hc.1 (by omega), x_l4Draw2 l hl c p hp q c.length a h0 (by simp at h1; omega) hc.1 (by omega)⟩
  | cons x r ih =>
    intro c p q a hc hp h0 h1 hq
    obtain ⟨q, rfl⟩ : ∃ n, q = n + 1 := ⟨q - 1, by omega⟩
    have hlen : (c ++ x :: r).length = c.length + (r.length + 1) := by simp
    simp only [List.length_cons] at h1 hq
    by_cases hi : (c.length : Int) < nx l a ((c ++ x :: r).length + 1)
    · have hx := hc.2 x (by simp)
      have hcl := hc.1
      obtain ⟨va, vp, m, hs, d⟩ := s_spec_l4StepN p x hp ⟨by omega, by omega⟩
      have hk := step_ok (c := x) hp ⟨by omega, by omega⟩
      have h := ih (c ++ [x]) (stepP p x).2 q (a + 1) (by simpa using hc) hk (by omega) (by push_cast at h1; omega) (by omega)
      have n1 := s_l1Next l a ((c ++ x :: r).length + 1) hl ⟨by omega, by omega⟩
      have w1 : IntKind.i64.wrap (((c ++ x :: r).length : Int) + 1) = (c ++ x :: r).length + 1 := wrap_i64 (by omega) (by omega)
      have hw := wrap_next (n := c.length) (by omega)
      have hy := cellI .i64 (c ++ x :: r) c.length (by omega)
      have hg : gt (c ++ x :: r) c.length = x := by simp [gt]
      rw [hg] at hy
      have hz := fun n o cc => ixa_sl (sz := 1) .i64 (n := n) (o := o) (len := (c ++ x :: r).length) (c := cc) (j := (c.length : Int)) (by omega) (by omega)
      simp only [Int.toNat_natCast] at hz
      simp at h n1 w1 hy hz hi
      generalize stepP p x = st at *
      obtain ⟨ac, p2⟩ := st
      simp only at *
      rcases hs with ⟨e1, e2, rfl, rfl, rfl⟩ | ⟨e1, rfl, rfl, rfl⟩ | ⟨e1, rfl, rfl, rfl⟩
      · have h := h.1 e2
        refine ⟨fun hn => ?_, ?_⟩
        · have ev : frS eI6 p.ns = roS 0 [] := by rw [hn]; rfl
          simp only [parV, ev] at d
          simpa (config := { maxSteps := 1000000 }) -implicitDefEqProofs [L_spec_l4Draw, retK_eq, cutK_eq, w1, n1, hi, hy, hz, hw, d] using h
        · simpa (config := { maxSteps := 1000000 }) -implicitDefEqProofs [L_spec_l4Draw, retK_eq, cutK_eq, w1, n1, hi, hy, hz, hw, d] using h
      · have h := h.2
        refine ⟨fun hn => ?_, ?_⟩
        · have ev : frS eI6 p.ns = roS 0 [] := by rw [hn]; rfl
          simp only [parV, ev] at d
          simpa (config := { maxSteps := 1000000 }) -implicitDefEqProofs [L_spec_l4Draw, retK_eq, cutK_eq, w1, n1, hi, hy, hz, hw, d] using h
        · simpa (config := { maxSteps := 1000000 }) -implicitDefEqProofs [L_spec_l4Draw, retK_eq, cutK_eq, w1, n1, hi, hy, hz, hw, d] using h
      · have h := h.1 e1
        refine ⟨fun hn => ?_, ?_⟩
        · have ev : frS eI6 p.ns = roS 0 [] := by rw [hn]; rfl
          simp only [parV, ev] at d
          simpa (config := { maxSteps := 1000000 }) -implicitDefEqProofs [L_spec_l4Draw, retK_eq, cutK_eq, w1, n1, hi, hy, hz, hw, d] using h
        · simpa (config := { maxSteps := 1000000 }) -implicitDefEqProofs [L_spec_l4Draw, retK_eq, cutK_eq, w1, n1, hi, hy, hz, hw, d] using h
    · exact ⟨fun hn => x_l4Draw1 l hl (c ++ x :: r) p hp hn q c.length a h0 (by push_cast at h1; omega) hc.1 hi, x_l4Draw2 l hl (c ++ x :: r) p hp q c.length a h0 (by push_cast at h1; omega) hc.1 hi⟩
theorem s_l4Draw (l : List Int) (hl : bytesOk l) : DrR l (X_spec_l4Draw [pt 0] [srcM l 0]) := by
  obtain ⟨c, b, hc, h0, h1, h⟩ := s_l4Sequence l 0 hl (by omega) (by omega)
  have hd := (l_l4Draw l hl c [] p0 QQ b (by simpa using hc) parF_p0 h0 (by have := hc.1; omega) (by have := hc.1; unfold QQ; omega)).1 rfl
  simp [p0] at hd
  simpa (config := { maxSteps := 1000000 }) -implicitDefEqProofs [X_spec_l4Draw, retK_eq, cutK_eq, h] using hd
end Go.Ab
