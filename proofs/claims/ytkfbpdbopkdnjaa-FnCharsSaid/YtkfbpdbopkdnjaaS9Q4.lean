/- What the functions of the program answer, for all arguments that the theorems name as conditions. -/
import Derived.Test.YtkfbpdbopkdnjaaS9Q3
namespace Go.Ab
set_option linter.unusedSimpArgs false
set_option linter.unusedVariables false
set_option maxHeartbeats 40000000

/-! ## Streams that the reference decodes -/
theorem apL_nil0 {m : Mem} {sz bytes n2 o2 c2 : Nat} : apL m sz bytes (.slice none 0 0) (.slice (some ⟨n2, o2, none⟩) 0 c2) = some (.slice none 0 0, m) := by
  show (ob (rd m n2 o2 (0 * sz)) fun cs => appendIn m sz bytes (.slice none 0 0) cs 0) = _
  rw [Nat.zero_mul]
  rfl
theorem apL_nil {m : Mem} {sz bytes n2 o2 k c2 : Nat} (h0 : k ≠ 0) (hk : k < 1000000000) (hb : bytes ≤ 100000) : apL m sz bytes (.slice none 0 0) (.slice (some ⟨n2, o2, none⟩) k c2) = bo (fun cs => some (.slice (some ⟨m.length, 0, none⟩) k k, m ++ [⟨cs, sz, true, true⟩])) (rdM m[n2]? o2 (k * sz)) := by
  have h2 : k * bytes ≤ 140737488355328 := Nat.le_trans (Nat.mul_le_mul (Nat.le_of_lt hk) hb) (by omega)
  show (ob (rd m n2 o2 (k * sz)) fun cs => appendIn m sz bytes (.slice none 0 0) cs k) = _
  rw [rd_rdM]
  cases rdM m[n2]? o2 (k * sz) with
  | none => rfl
  | some cs =>
    show (if k = 0 then some (Value.slice none 0 0, m) else if k * bytes ≤ 140737488355328 ∧ k ≤ 140737488355328 then some (Value.slice (some ⟨m.length, 0, none⟩) k k, m ++ [⟨cs, sz, true, true⟩]) else none) = _
    rw [if_neg h0, if_pos ⟨h2, by omega⟩]
    rfl
abbrev oB (v : Value) (d : DecT) : Blk := blk [.int .i64 0, v, .int .i64 d.l, .int .i64 d.w, .int .i64 d.v]
theorem l_spec_DecodeMany (r : List Int) : ∀ (p out : List Int) (d : DecT) (q : Nat), decB d = true → (∀ x ∈ r, 0 ≤ x ∧ x < 256) → r.length < q → (p ++ r).length ≤ 2000 → out.length ≤ 2 * p.length →
    (out = [] → ∃ v m, SLN (feedD d r).1 v m ∧ L_spec_DecodeMany 0 q 0 [frS eU8 (p ++ r), ptr 0, ptr 1, .int .i64 p.length] [z5, oB nil0 d] = some (decW 0 v (feedD d r).2, m)) ∧
    L_spec_DecodeMany 0 q 0 [frS eU8 (p ++ r), ptr 0, ptr 1, .int .i64 p.length] [z5, oB (slO 2 out.length) d, ownB eI6 out] = some (decW 0 (slO 0 (out ++ (feedD d r).1).length) (feedD d r).2, [ownB eI6 (out ++ (feedD d r).1)]) := by
  induction r with
  | nil =>
    intro p out d q hd hb hq hl ho
    obtain ⟨q, rfl⟩ : ∃ n, q = n + 1 := ⟨q - 1, by omega⟩
    refine ⟨fun hn => ⟨nil0, [], .inl ⟨rfl, rfl, rfl⟩, ?_⟩, ?_⟩
    · simp -implicitDefEqProofs [L_spec_DecodeMany, retK_eq, feedD]
    · simp -implicitDefEqProofs [L_spec_DecodeMany, retK_eq, feedD]
  | cons x r ih =>
    intro p out d q hd hb hq hl ho
    obtain ⟨q, rfl⟩ : ∃ n, q = n + 1 := ⟨q - 1, by omega⟩
    have hx0 := hb x (by simp)
    have hh := s_spec_l1Step d x hd hx0
    obtain ⟨s1, s2⟩ := step_dec hd hx0
    have h := ih (p ++ [x]) (out ++ (stepD d x).1) (stepD d x).2 q s1 (fun y hy => hb y (by simp [hy])) (by simp at hq; omega) (by simpa using hl) (by simp; omega)
    have hl' : p.length + (r.length + 1) ≤ 2000 := by simpa using hl
    have hx := ixa_mid eU8 (sz := 1) rfl .i64 p x r
    have hw := wrap_next (n := p.length) (by omega)
    have hv : IntKind.i64.wrap x = x := wrap_i64 (by omega) (by omega)
    have p3 := fun m n cs k => apB_own (E := eI6) (m := m) (l := out) (n := n) (sz := 1) (cs := cs) (k := k) rfl
    have p1 := fun m n o c k o2 c2 => apL_sl (m := m) (sz := 1) (bytes := 8) (n := n) (o := o) (len := out.length) (c := c) (n2 := k) (o2 := o2) (len2 := (stepD d x).1.length) (c2 := c2) (by omega) (by omega)
    have b3 := rdM_own eI6 (stepD d x).1 (stepD d x).1.length (Nat.mul_one _).symm
    have k2 : (⟨cellsE eI6 out ++ cellsE eI6 (stepD d x).1, 1, true, true⟩ : Blk) = ownB eI6 (out ++ (stepD d x).1) := mk_own2 eI6 _ _ 1 rfl
    have k3 : (⟨cellsE eI6 (stepD d x).1, 1, true, true⟩ : Blk) = ownB eI6 (stepD d x).1 := rfl
    simp only [feedD]
    generalize stepD d x = st at *
    obtain ⟨cs, d2⟩ := st
    simp only at *
    obtain ⟨ha, hb2⟩ := h
    simp at hb2
    refine ⟨fun hn => ?_, ?_⟩
    · subst hn
      by_cases hc : cs = []
      · subst hc
        obtain ⟨v, m, hs, e⟩ := ha rfl
        refine ⟨v, m, by simpa using hs, ?_⟩
        have p6 := fun m n2 o2 c2 => apL_nil0 (m := m) (sz := 1) (bytes := 8) (n2 := n2) (o2 := o2) (c2 := c2)
        simp at e hh
        simp (maxSteps := 1000000) +contextual -implicitDefEqProofs [L_spec_DecodeMany, retK_eq, cutK_eq, hx, hw, hv, hh, p6, e]
      · have hc' : cs.length ≠ 0 := fun e => hc (List.eq_nil_of_length_eq_zero e)
        have p6 := fun m n2 o2 c2 => apL_nil (m := m) (sz := 1) (bytes := 8) (n2 := n2) (o2 := o2) (k := cs.length) (c2 := c2) hc' (by omega) (by omega)
        refine ⟨_, _, .inr ⟨rfl, rfl⟩, ?_⟩
        simp at hb2
        simp (maxSteps := 1000000) +contextual -implicitDefEqProofs [L_spec_DecodeMany, retK_eq, cutK_eq, hx, hw, hv, hh, p6, b3, k3, hb2]
    · simp (maxSteps := 1000000) +contextual -implicitDefEqProofs [L_spec_DecodeMany, retK_eq, cutK_eq, hx, hw, hv, hh, p1, p3, b3, k2, hb2]
theorem s_spec_DecodeMany_bad (d : DecT) (data : List Int) (h : ¬ (decB d = true ∧ data.length ≤ 2000)) : X_spec_DecodeMany [decV d, frS eU8 data] [] = some (decW (if decB d = true then 2 else 3) nil0 dec0, []) := by
  have c1 := fun rest => s_spec_l1Fault d rest
  cases h1 : decB d
  · simp -implicitDefEqProofs [X_spec_DecodeMany, retK_eq, c1, decF, h1, dec0]
  · have h2 : ¬ (data.length : Int) ≤ 2000 := fun q => h ⟨h1, by omega⟩
    have h3 : (2000 : Int) < data.length := by omega
    simp -implicitDefEqProofs [X_spec_DecodeMany, retK_eq, c1, decF, h1, h2, h3, dec0]
theorem s_spec_DecodeMany (d : DecT) (data : List Int) (hd : decB d = true) (hl : data.length ≤ 2000) (hb : ∀ x ∈ data, 0 ≤ x ∧ x < 256) : ∃ v m, SLN (feedD d data).1 v m ∧ X_spec_DecodeMany [decV d, frS eU8 data] [] = some (decW 0 v (feedD d data).2, m) := by
  have c1 := fun rest => s_spec_l1Fault d rest
  obtain ⟨v, m, hs, h⟩ := (l_spec_DecodeMany data [] [] d QQ hd hb (by unfold QQ; omega) (by simpa using hl) (by simp)).1 rfl
  have h2 : ¬ (2000 : Int) < data.length := by omega
  refine ⟨v, m, hs, ?_⟩
  simp at h
  simp -implicitDefEqProofs [X_spec_DecodeMany, retK_eq, cutK_eq, c1, decF, hd, h2, h]
end Go.Ab
