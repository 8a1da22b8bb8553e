/- What the functions of the program answer, for all arguments that the theorems name as conditions. -/
import Derived.Test.YtkfbpdbopkdnjaaS9B1
import Derived.Test.YtkfbpdbopkdnjaaS9E1
namespace Go.Ab
set_option linter.unusedSimpArgs false
set_option linter.unusedVariables false
set_option maxHeartbeats 40000000

/-! ## Characters as bytes -/
def encB (x : Int) : List Int := if x < 128 then [x] else if x < 2048 then [192 + x / 64, 128 + x % 64] else [224 + x / 4096, 128 + x / 64 % 64, 128 + x % 64]
theorem encB_len (x : Int) : (encB x).length ≤ 3 := by unfold encB; split; simp; split <;> simp
theorem s_spec_l1Encode (x : Int) (h0 : 0 ≤ x) (h1 : x ≤ 65535) : X_spec_l1Encode [.int .i64 x] [] = some (slO 0 (encB x).length, [ownB eU8 (encB x)]) := by
  have e1 : x.tdiv 64 = x / 64 := Int.tdiv_eq_ediv_of_nonneg h0
  have e2 : x.tdiv 4096 = x / 4096 := Int.tdiv_eq_ediv_of_nonneg h0
  have e3 : x.tmod 64 = x % 64 := Int.tmod_eq_emod_of_nonneg h0
  have e4 : (x / 64).tmod 64 = x / 64 % 64 := Int.tmod_eq_emod_of_nonneg (by omega)
  have w1 : IntKind.i64.wrap (x / 64) = x / 64 := wrap_i64 (by omega) (by omega)
  have w2 : IntKind.i64.wrap (x / 4096) = x / 4096 := wrap_i64 (by omega) (by omega)
  have w3 : IntKind.i64.wrap (192 + x / 64) = 192 + x / 64 := wrap_i64 (by omega) (by omega)
  have w4 : IntKind.i64.wrap (128 + x % 64) = 128 + x % 64 := wrap_i64 (by omega) (by omega)
  have w5 : IntKind.i64.wrap (224 + x / 4096) = 224 + x / 4096 := wrap_i64 (by omega) (by omega)
  have w6 : IntKind.i64.wrap (128 + x / 64 % 64) = 128 + x / 64 % 64 := wrap_i64 (by omega) (by omega)
  have u4 : IntKind.u8.wrap (128 + x % 64) = 128 + x % 64 := wrap_u8' (by omega) (by omega)
  have u6 : IntKind.u8.wrap (128 + x / 64 % 64) = 128 + x / 64 % 64 := wrap_u8' (by omega) (by omega)
  by_cases c1 : x < 128
  · have u1 : IntKind.u8.wrap x = x := wrap_u8' (by omega) (by omega)
    simp -implicitDefEqProofs [X_spec_l1Encode, retK_eq, encB, c1, u1]
    rfl
  · by_cases c2 : x < 2048
    · have u2 : IntKind.u8.wrap (192 + x / 64) = 192 + x / 64 := wrap_u8' (by omega) (by omega)
      simp -implicitDefEqProofs [X_spec_l1Encode, retK_eq, encB, c1, c2, e1, e3, w1, w3, w4, u2, u4]
      rfl
    · have u3 : IntKind.u8.wrap (224 + x / 4096) = 224 + x / 4096 := wrap_u8' (by omega) (by omega)
      simp -implicitDefEqProofs [X_spec_l1Encode, retK_eq, encB, c1, c2, e1, e2, e3, e4, w1, w2, w4, w5, w6, u3, u4, u6]
      rfl
theorem s_impl_encode (x : Int) (h0 : 0 ≤ x) (h1 : x ≤ 65535) : X_impl_encode [.int .i64 x] [] = some (slO 0 (encB x).length, [ownB eU8 (encB x)]) := by
  have e1 := shr_div (a := x) 6 (by omega)
  have e2 := shr_div (a := x) 12 (by omega)
  have e3 := and_mask (a := x) 6 h0 (by omega) (by omega)
  have e4 := and_mask (a := x / 64) 6 (by omega) (by omega) (by omega)
  simp only [Nat.reducePow, Nat.reduceSub, Int.cast_ofNat_Int] at e1 e2 e3 e4
  have w3 : IntKind.i64.wrap (192 + x / 64) = 192 + x / 64 := wrap_i64 (by omega) (by omega)
  have w4 : IntKind.i64.wrap (128 + x % 64) = 128 + x % 64 := wrap_i64 (by omega) (by omega)
  have w5 : IntKind.i64.wrap (224 + x / 4096) = 224 + x / 4096 := wrap_i64 (by omega) (by omega)
  have w6 : IntKind.i64.wrap (128 + x / 64 % 64) = 128 + x / 64 % 64 := wrap_i64 (by omega) (by omega)
  have u4 : IntKind.u8.wrap (128 + x % 64) = 128 + x % 64 := wrap_u8' (by omega) (by omega)
  have u6 : IntKind.u8.wrap (128 + x / 64 % 64) = 128 + x / 64 % 64 := wrap_u8' (by omega) (by omega)
  by_cases c1 : x < 128
  · have u1 : IntKind.u8.wrap x = x := wrap_u8' (by omega) (by omega)
    simp -implicitDefEqProofs [X_impl_encode, retK_eq, encB, c1, u1]
    rfl
  · by_cases c2 : x < 2048
    · have u2 : IntKind.u8.wrap (192 + x / 64) = 192 + x / 64 := wrap_u8' (by omega) (by omega)
      simp -implicitDefEqProofs [X_impl_encode, retK_eq, encB, c1, c2, e1, e3, w3, w4, u2, u4]
      rfl
    · have u3 : IntKind.u8.wrap (224 + x / 4096) = 224 + x / 4096 := wrap_u8' (by omega) (by omega)
      simp -implicitDefEqProofs [X_impl_encode, retK_eq, encB, c1, c2, e1, e2, e3, e4, w4, w5, w6, u3, u4, u6]
      rfl
theorem encB_bd {x : Int} (h0 : 0 ≤ x) (h1 : x ≤ 65535) : ∀ y ∈ encB x, 0 ≤ y ∧ y < 256 := by
  intro y hy
  unfold encB at hy
  split at hy
  · simp at hy; omega
  split at hy
  · simp at hy; omega
  · simp at hy; omega
def allCh (l : List Int) : Bool := l.all chB
def encL : List Int → List Int
  | [] => []
  | c :: r => encB c ++ encL r
theorem ch_bd {x : Int} (h : chB x = true) : 0 ≤ x ∧ x ≤ 65535 := by simp [chB, inB] at h; omega
abbrev nilQ : Value := .slice none 0 0
theorem encL_len (l : List Int) : (encL l).length ≤ 3 * l.length := by
  induction l with
  | nil => simp [encL]
  | cons c r ih =>
    have := encB_len c
    simp only [encL, List.length_append, List.length_cons]
    omega
theorem encL_bd (l : List Int) (h : allCh l = true) : ∀ y ∈ encL l, 0 ≤ y ∧ y < 256 := by
  induction l with
  | nil => intro y hy; simp [encL] at hy
  | cons c r ih =>
    intro y hy
    simp [allCh] at h
    simp only [encL] at hy
    rcases List.mem_append.1 hy with hy | hy
    · have := ch_bd h.1
      exact encB_bd this.1 this.2 y hy
    · exact ih (by simp [allCh]; exact h.2) y hy
theorem l_impl_EncodeAll (r : List Int) : ∀ (p out : List Int) (q : Nat), r.length < q → (p ++ r).length ≤ 500 → out.length ≤ 3 * p.length → L_impl_EncodeAll 0 q 0 [ptr 0, slO 1 out.length, frS eI6 (p ++ r), .int .i64 (p ++ r).length, .int .i64 p.length] [blk [.int .i64 0, nilQ], ownB eU8 out] = if allCh r = true then some (.agg #[.int .i64 0, slO 0 (out ++ encL r).length], [ownB eU8 (out ++ encL r)]) else some (.agg #[.int .i64 3, nilQ], []) := by
  induction r with
  | nil =>
    intro p out q hq hl ho
    obtain ⟨q, rfl⟩ : ∃ n, q = n + 1 := ⟨q - 1, by omega⟩
    simp -implicitDefEqProofs [L_impl_EncodeAll, retK_eq, encL, allCh]
  | cons x r ih =>
    intro p out q hq hl ho
    obtain ⟨q, rfl⟩ : ∃ n, q = n + 1 := ⟨q - 1, by omega⟩
    have hl' : p.length + (r.length + 1) ≤ 500 := by simpa using hl
    have hx := ixa_mid eI6 (sz := 1) rfl .i64 p x r
    have hw := wrap_next (n := p.length) (by omega)
    have ea : allCh (x :: r) = (chB x && allCh r) := rfl
    cases hc : chB x
    · simp (maxSteps := 1000000) -implicitDefEqProofs [L_impl_EncodeAll, retK_eq, cutK_eq, hx, hw, hc, ea, s_impl_isChar]
    · have hb := ch_bd hc
      have hee := encB_len x
      have he := s_impl_encode x hb.1 hb.2
      have h := ih (p ++ [x]) (out ++ encB x) q (by simp at hq; omega) (by simpa using hl) (by simp; omega)
      have p3 := fun m n cs k => apB_own (E := eU8) (m := m) (l := out) (n := n) (sz := 1) (cs := cs) (k := k) rfl
      have p1 := fun m n o c k o2 c2 => apL_sl (m := m) (sz := 1) (bytes := 1) (n := n) (o := o) (len := out.length) (c := c) (n2 := k) (o2 := o2) (len2 := (encB x).length) (c2 := c2) (by omega) (by omega)
      have b3 := rdM_own eU8 (encB x) (encB x).length (Nat.mul_one _).symm
      have k2 : (⟨cellsE eU8 out ++ cellsE eU8 (encB x), 1, true, true⟩ : Blk) = ownB eU8 (out ++ encB x) := mk_own2 eU8 _ _ 1 rfl
      simp only [ea, hc, Bool.true_and, encL]
      simp at h
      simp (maxSteps := 1000000) -implicitDefEqProofs [L_impl_EncodeAll, retK_eq, cutK_eq, hx, hw, hc, he, p1, p3, b3, k2, h, s_impl_isChar]
theorem s_impl_EncodeAll (l : List Int) (hl : l.length ≤ 500) : X_impl_EncodeAll [frS eI6 l] [] = if l.length ≤ 400 then (if allCh l = true then some (.agg #[.int .i64 0, slO 0 (encL l).length], [ownB eU8 (encL l)]) else some (.agg #[.int .i64 3, nilQ], [])) else some (.agg #[.int .i64 2, nilQ], []) := by
  have h := l_impl_EncodeAll l [] [] QQ (by unfold QQ; omega) (by simpa using hl) (by simp)
  have e0 : (⟨[], 1, true, true⟩ : Blk) = ownB eU8 [] := rfl
  by_cases h1 : l.length ≤ 400
  · have h2 : ¬ (400 : Int) < l.length := by omega
    rw [if_pos h1]
    simp at h
    simp -implicitDefEqProofs [X_impl_EncodeAll, retK_eq, cutK_eq, h2, e0, h]
  · have h2 : (400 : Int) < l.length := by omega
    rw [if_neg h1]
    simp -implicitDefEqProofs [X_impl_EncodeAll, retK_eq, cutK_eq, h2]
theorem l_spec_EncodeAll (r : List Int) : ∀ (p out : List Int) (q : Nat), r.length < q → (p ++ r).length ≤ 500 → out.length ≤ 3 * p.length → L_spec_EncodeAll 0 q 0 [frS eI6 (p ++ r), ptr 0, slO 1 out.length, .int .i64 p.length] [blk [.int .i64 0, nilQ], ownB eU8 out] = if allCh r = true then some (.agg #[.int .i64 0, slO 0 (out ++ encL r).length], [ownB eU8 (out ++ encL r)]) else some (.agg #[.int .i64 3, nilQ], []) := by
  induction r with
  | nil =>
    intro p out q hq hl ho
    obtain ⟨q, rfl⟩ : ∃ n, q = n + 1 := ⟨q - 1, by omega⟩
    simp -implicitDefEqProofs [L_spec_EncodeAll, retK_eq, encL, allCh]
  | cons x r ih =>
    intro p out q hq hl ho
    obtain ⟨q, rfl⟩ : ∃ n, q = n + 1 := ⟨q - 1, by omega⟩
    have hl' : p.length + (r.length + 1) ≤ 500 := by simpa using hl
    have hx := ixa_mid eI6 (sz := 1) rfl .i64 p x r
    have hw := wrap_next (n := p.length) (by omega)
    have ea : allCh (x :: r) = (chB x && allCh r) := rfl
    cases hc : chB x
    · simp (maxSteps := 1000000) -implicitDefEqProofs [L_spec_EncodeAll, retK_eq, cutK_eq, hx, hw, hc, ea, s_spec_l1Char]
    · have hb := ch_bd hc
      have hee := encB_len x
      have he := s_spec_l1Encode x hb.1 hb.2
      have h := ih (p ++ [x]) (out ++ encB x) q (by simp at hq; omega) (by simpa using hl) (by simp; omega)
      have p3 := fun m n cs k => apB_own (E := eU8) (m := m) (l := out) (n := n) (sz := 1) (cs := cs) (k := k) rfl
      have p1 := fun m n o c k o2 c2 => apL_sl (m := m) (sz := 1) (bytes := 1) (n := n) (o := o) (len := out.length) (c := c) (n2 := k) (o2 := o2) (len2 := (encB x).length) (c2 := c2) (by omega) (by omega)
      have b3 := rdM_own eU8 (encB x) (encB x).length (Nat.mul_one _).symm
      have k2 : (⟨cellsE eU8 out ++ cellsE eU8 (encB x), 1, true, true⟩ : Blk) = ownB eU8 (out ++ encB x) := mk_own2 eU8 _ _ 1 rfl
      simp only [ea, hc, Bool.true_and, encL]
      simp at h
      simp (maxSteps := 1000000) -implicitDefEqProofs [L_spec_EncodeAll, retK_eq, cutK_eq, hx, hw, hc, he, p1, p3, b3, k2, h, s_spec_l1Char]
theorem s_spec_EncodeAll (l : List Int) (hl : l.length ≤ 500) : X_spec_EncodeAll [frS eI6 l] [] = if l.length ≤ 400 then (if allCh l = true then some (.agg #[.int .i64 0, slO 0 (encL l).length], [ownB eU8 (encL l)]) else some (.agg #[.int .i64 3, nilQ], [])) else some (.agg #[.int .i64 2, nilQ], []) := by
  have h := l_spec_EncodeAll l [] [] QQ (by unfold QQ; omega) (by simpa using hl) (by simp)
  have e0 : (⟨[], 1, true, true⟩ : Blk) = ownB eU8 [] := rfl
  by_cases h1 : l.length ≤ 400
  · have h2 : ¬ (400 : Int) < l.length := by omega
    rw [if_pos h1]
    simp at h
    simp -implicitDefEqProofs [X_spec_EncodeAll, retK_eq, cutK_eq, h2, e0, h]
  · have h2 : (400 : Int) < l.length := by omega
    rw [if_neg h1]
    simp -implicitDefEqProofs [X_spec_EncodeAll, retK_eq, cutK_eq, h2]
end Go.Ab
