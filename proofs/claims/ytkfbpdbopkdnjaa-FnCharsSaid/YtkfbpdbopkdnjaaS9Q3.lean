/- What the functions of the program answer, for all arguments that the theorems name as conditions. -/
import Derived.Test.YtkfbpdbopkdnjaaS9Q2
import Derived.Test.YtkfbpdbopkdnjaaS9B1f
namespace Go.Ab
set_option linter.unusedSimpArgs false
set_option linter.unusedVariables false
set_option maxHeartbeats 40000000

/-! ## Streams that are decoded -/
def feedD : DecT → List Int → List Int × DecT
  | d, [] => ([], d)
  | d, b :: r => ((stepD d b).1 ++ (feedD (stepD d b).2 r).1, (feedD (stepD d b).2 r).2)
abbrev dB (d : DecT) : Blk := blk [.int .i64 d.l, .int .i64 d.w, .int .i64 d.v]
abbrev z5 : Blk := blk [.int .i64 0, nil0, .int .i64 0, .int .i64 0, .int .i64 0]
abbrev decW (k : Int) (v : Value) (d : DecT) : Value := .agg #[.int .i64 k, v, .int .i64 d.l, .int .i64 d.w, .int .i64 d.v]
theorem l_impl_DecodeMany (r : List Int) : ∀ (p out : List Int) (d : DecT) (q : Nat), decB d = true → (∀ x ∈ r, 0 ≤ x ∧ x < 256) → r.length < q → (p ++ r).length ≤ 2000 → out.length ≤ 2 * p.length → L_impl_DecodeMany 0 q 0 [ptr 0, ptr 1, slO 2 out.length, frS eU8 (p ++ r), .int .i64 (p ++ r).length, .int .i64 p.length] [dB d, z5, ownB eI6 out] = some (decW 0 (slO 0 (out ++ (feedD d r).1).length) (feedD d r).2, [ownB eI6 (out ++ (feedD d r).1)]) := by
  induction r with
  | nil =>
    intro p out d q hd hb hq hl ho
    obtain ⟨q, rfl⟩ : ∃ n, q = n + 1 := ⟨q - 1, by omega⟩
    simp -implicitDefEqProofs [L_impl_DecodeMany, retK_eq, feedD]
  | cons x r ih =>
    intro p out d q hd hb hq hl ho
    obtain ⟨q, rfl⟩ : ∃ n, q = n + 1 := ⟨q - 1, by omega⟩
    have hx0 := hb x (by simp)
    obtain ⟨v, m, hs, hh⟩ := s_impl_hear d x hd hx0
    obtain ⟨s1, s2⟩ := step_dec hd hx0
    have h := ih (p ++ [x]) (out ++ (stepD d x).1) (stepD d x).2 q s1 (fun y hy => hb y (by simp [hy])) (by simp at hq; omega) (by simpa using hl) (by simp; omega)
    have hl' : p.length + (r.length + 1) ≤ 2000 := by simpa using hl
    have hx := ixa_mid eU8 (sz := 1) rfl .i64 p x r
    have hw := wrap_next (n := p.length) (by omega)
    have p3 := fun m n cs k => apB_own (E := eI6) (m := m) (l := out) (n := n) (sz := 1) (cs := cs) (k := k) rfl
    have p5 := fun m n o c => apL_none (m := m) (sz := 1) (bytes := 8) (n := n) (o := o) (len := out.length) (c := c) (by omega) (by omega)
    have p1 := fun m n o c k o2 c2 => apL_sl (m := m) (sz := 1) (bytes := 8) (n := n) (o := o) (len := out.length) (c := c) (n2 := k) (o2 := o2) (len2 := (stepD d x).1.length) (c2 := c2) (by omega) (by omega)
    have b3 := rdM_own eI6 (stepD d x).1 (stepD d x).1.length (Nat.mul_one _).symm
    have k1 : (⟨cellsE eI6 out, 1, true, true⟩ : Blk) = ownB eI6 out := rfl
    have k2 : (⟨cellsE eI6 out ++ cellsE eI6 (stepD d x).1, 1, true, true⟩ : Blk) = ownB eI6 (out ++ (stepD d x).1) := mk_own2 eI6 _ _ 1 rfl
    simp only [feedD]
    generalize stepD d x = st at *
    obtain ⟨cs, d2⟩ := st
    simp only at *
    rcases hs with ⟨rfl, rfl, rfl⟩ | ⟨rfl, rfl⟩
    · simp at h
      simp (maxSteps := 1000000) +contextual -implicitDefEqProofs [L_impl_DecodeMany, retK_eq, cutK_eq, hx, hw, hh, p5, p3, k1, h]
    · simp at h
      simp (maxSteps := 1000000) +contextual -implicitDefEqProofs [L_impl_DecodeMany, retK_eq, cutK_eq, hx, hw, hh, p1, p3, b3, k2, h]
theorem s_impl_DecodeMany_bad (d : DecT) (data : List Int) (h : ¬ (decB d = true ∧ data.length ≤ 2000)) : X_impl_DecodeMany [decV d, frS eU8 data] [] = some (decW (if decB d = true then 2 else 3) nil0 dec0, []) := by
  have c1 := s_impl_DecoderFault d
  cases h1 : decB d
  · simp -implicitDefEqProofs [X_impl_DecodeMany, retK_eq, c1, decF, s_impl_unless, s_impl_first, unl, h1, dec0]
  · have h2 : ¬ (data.length : Int) ≤ 2000 := fun q => h ⟨h1, by omega⟩
    simp -implicitDefEqProofs [X_impl_DecodeMany, retK_eq, c1, decF, s_impl_unless, s_impl_first, unl, h1, h2, dec0]
theorem s_impl_DecodeMany (d : DecT) (data : List Int) (hd : decB d = true) (hl : data.length ≤ 2000) (hb : ∀ x ∈ data, 0 ≤ x ∧ x < 256) : X_impl_DecodeMany [decV d, frS eU8 data] [] = some (decW 0 (slO 0 (feedD d data).1.length) (feedD d data).2, [ownB eI6 (feedD d data).1]) := by
  have c1 := s_impl_DecoderFault d
  have h := l_impl_DecodeMany data [] [] d QQ hd hb (by unfold QQ; omega) (by simpa using hl) (by simp)
  have h2 : (data.length : Int) ≤ 2000 := by omega
  have e0 : (⟨[], 1, true, true⟩ : Blk) = ownB eI6 [] := rfl
  simp at h
  simp -implicitDefEqProofs [X_impl_DecodeMany, retK_eq, cutK_eq, c1, decF, s_impl_unless, s_impl_first, unl, hd, h2, h, e0]
end Go.Ab
