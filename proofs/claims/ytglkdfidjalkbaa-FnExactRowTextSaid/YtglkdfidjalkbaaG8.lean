/- What the functions of the program answer, for all arguments that the theorems name as conditions. -/
import Derived.Test.YtglkdfidjalkbaaG5
namespace Go.Ab
set_option linter.unusedSimpArgs false
set_option linter.unusedVariables false
set_option maxHeartbeats 4000000

/-! ## Text of rows -/
abbrev eU8 : Enc Int := eI .u8
def encB (x : Int) : List Int := if x < 128 then [x] else if x < 2048 then [192 + x / 64, 128 + x % 64] else [224 + x / 4096, 128 + x / 64 % 64, 128 + x % 64]
theorem encB_len (x : Int) : (encB x).length ≤ 3 := by unfold encB; split; simp; split <;> simp
theorem s_spec_l1Encode (x : Int) (h0 : 0 ≤ x) (h1 : x ≤ 65535) : X_spec_l1Encode [.int .i64 x] [] = some (slO 0 (encB x).length, [ownB eU8 (encB x)]) := by
  have e1 : x.tdiv 64 = x / 64 := Int.tdiv_eq_ediv_of_nonneg h0
  have e2 : x.tdiv 4096 = x / 4096 := Int.tdiv_eq_ediv_of_nonneg h0
  have e3 : x.tmod 64 = x % 64 := Int.tmod_eq_emod_of_nonneg h0
  have e4 : (x / 64).tmod 64 = x / 64 % 64 := Int.tmod_eq_emod_of_nonneg (by omega)
  have w1 : IntKind.i64.wrap (x / 64) = x / 64 := wrap_i64 (by omega) (by omega)
  have w2 : IntKind.i64.wrap (x / 4096) = x / 4096 := wrap_i64 (by omega) (by omega)
  have w3 : IntKind.i64.wrap (192 + x / 64) = 192 + x / 64 := wrap_i64 (by omega) (by omega)
  have w4 : IntKind.i64.wrap (128 + x % 64) = 128 + x % 64 := wrap_i64 (by omega) (by omega)
  have w5 : IntKind.i64.wrap (224 + x / 4096) = 224 + x / 4096 := wrap_i64 (by omega) (by omega)
  have w6 : IntKind.i64.wrap (128 + x / 64 % 64) = 128 + x / 64 % 64 := wrap_i64 (by omega) (by omega)
  have u4 : IntKind.u8.wrap (128 + x % 64) = 128 + x % 64 := wrap_u8' (by omega) (by omega)
  have u6 : IntKind.u8.wrap (128 + x / 64 % 64) = 128 + x / 64 % 64 := wrap_u8' (by omega) (by omega)
  by_cases c1 : x < 128
  · have u1 : IntKind.u8.wrap x = x := wrap_u8' (by omega) (by omega)
    simp -implicitDefEqProofs [X_spec_l1Encode, retK_eq, encB, c1, u1]
    rfl
  · by_cases c2 : x < 2048
    · have u2 : IntKind.u8.wrap (192 + x / 64) = 192 + x / 64 := wrap_u8' (by omega) (by omega)
      simp -implicitDefEqProofs [X_spec_l1Encode, retK_eq, encB, c1, c2, e1, e3, w1, w3, w4, u2, u4]
      rfl
    · have u3 : IntKind.u8.wrap (224 + x / 4096) = 224 + x / 4096 := wrap_u8' (by omega) (by omega)
      simp -implicitDefEqProofs [X_spec_l1Encode, retK_eq, encB, c1, c2, e1, e2, e3, e4, w1, w2, w4, w5, w6, u3, u4, u6]
      rfl
theorem s_impl_encode (x : Int) (h0 : 0 ≤ x) (h1 : x ≤ 65535) : X_impl_encode [.int .i64 x] [] = some (slO 0 (encB x).length, [ownB eU8 (encB x)]) := by
  have e1 := shr_div (a := x) 6 (by omega)
  have e2 := shr_div (a := x) 12 (by omega)
  have e3 := and_mask (a := x) 6 h0 (by omega) (by omega)
  have e4 := and_mask (a := x / 64) 6 (by omega) (by omega) (by omega)
  simp only [Nat.reducePow, Nat.reduceSub, Int.cast_ofNat_Int] at e1 e2 e3 e4
  have w3 : IntKind.i64.wrap (192 + x / 64) = 192 + x / 64 := wrap_i64 (by omega) (by omega)
  have w4 : IntKind.i64.wrap (128 + x % 64) = 128 + x % 64 := wrap_i64 (by omega) (by omega)
  have w5 : IntKind.i64.wrap (224 + x / 4096) = 224 + x / 4096 := wrap_i64 (by omega) (by omega)
  have w6 : IntKind.i64.wrap (128 + x / 64 % 64) = 128 + x / 64 % 64 := wrap_i64 (by omega) (by omega)
  have u4 : IntKind.u8.wrap (128 + x % 64) = 128 + x % 64 := wrap_u8' (by omega) (by omega)
  have u6 : IntKind.u8.wrap (128 + x / 64 % 64) = 128 + x / 64 % 64 := wrap_u8' (by omega) (by omega)
  by_cases c1 : x < 128
  · have u1 : IntKind.u8.wrap x = x := wrap_u8' (by omega) (by omega)
    simp -implicitDefEqProofs [X_impl_encode, retK_eq, encB, c1, u1]
    rfl
  · by_cases c2 : x < 2048
    · have u2 : IntKind.u8.wrap (192 + x / 64) = 192 + x / 64 := wrap_u8' (by omega) (by omega)
      simp -implicitDefEqProofs [X_impl_encode, retK_eq, encB, c1, c2, e1, e3, w3, w4, u2, u4]
      rfl
    · have u3 : IntKind.u8.wrap (224 + x / 4096) = 224 + x / 4096 := wrap_u8' (by omega) (by omega)
      simp -implicitDefEqProofs [X_impl_encode, retK_eq, encB, c1, c2, e1, e2, e3, e4, w4, w5, w6, u3, u4, u6]
      rfl
def rowL (g : GridT) (i : Int) : List CellT := (g.cs.drop (i * g.w).toNat).take (((i + 1) * g.w).toNat - (i * g.w).toNat)
theorem row_facts {g : GridT} {i : Int} (hf : faultG g = 0) (h0 : 0 ≤ i) (h1 : i ≤ g.r - 1) : IntKind.i64.wrap (i * g.w) = i * g.w ∧ IntKind.i64.wrap (i + 1) = i + 1 ∧ IntKind.i64.wrap ((i + 1) * g.w) = (i + 1) * g.w ∧ 0 ≤ i * g.w ∧ i * g.w ≤ (i + 1) * g.w ∧ (i + 1) * g.w ≤ g.cs.length ∧ g.cs.length ≤ 72 ∧ (rowL g i).length ≤ 72 ∧ ∀ x ∈ rowL g i, 0 ≤ x.c ∧ x.c ≤ 65535 := by
  have hs := szB_of hf
  have hb := szB_b hs
  have hl : (g.cs.length : Int) = g.r * g.w ∧ allC g.cs = true := by
    unfold faultG at hf
    rw [if_pos hs] at hf
    split at hf
    · rename_i hh
      split at hf
      · rename_i h3
        unfold formG at hh
        simp at hh h3
        exact ⟨hh.1, h3.1⟩
      · cases hf
    · cases hf
  have m1 := mul_le (r := i) (w := g.w) (a := 6) (b := 12) h0 (by omega) (by omega) (by omega)
  have m2 := mul_le (r := i + 1) (w := g.w) (a := 6) (b := 12) (by omega) (by omega) (by omega) (by omega)
  have m3 : i * g.w ≤ (i + 1) * g.w := Int.mul_le_mul_of_nonneg_right (by omega) (by omega)
  have m4 : (i + 1) * g.w ≤ g.r * g.w := Int.mul_le_mul_of_nonneg_right (by omega) (by omega)
  have m5 := mul_le (r := g.r) (w := g.w) (a := 6) (b := 12) (by omega) (by omega) (by omega) (by omega)
  refine ⟨wrap_i64 (by omega) (by omega), wrap_i64 (by omega) (by omega), wrap_i64 (by omega) (by omega), m1.1, m3, by omega, by omega, ?_, ?_⟩
  · unfold rowL
    rw [List.length_take, List.length_drop]
    omega
  · intro x hx
    have hx' : x ∈ g.cs := List.mem_of_mem_drop (List.mem_of_mem_take hx)
    have := List.all_eq_true.mp hl.2 x hx'
    simp [okC, shB', chB, inB] at this
    omega
theorem sl_row {g : GridT} {i : Int} (hf : faultG g = 0) (h0 : 0 ≤ i) (h1 : i ≤ g.r - 1) (m : Mem) : slX m 2 (frS eC g.cs) (some (.int .i64 (i * g.w))) (some (.int .i64 ((i + 1) * g.w))) = some (frS eC (rowL g i)) := by
  obtain ⟨_, _, _, f1, f2, f3, _⟩ := row_facts hf h0 h1
  exact sl_frS eC m (sz := 2) rfl (a := (i * g.w).toNat) (b := ((i + 1) * g.w).toNat) (if_pos f1) (if_pos (by omega)) (by omega) (by omega)
theorem s_spec_l3RowOf {g : GridT} {i : Int} (hf : faultG g = 0) (h0 : 0 ≤ i) (h1 : i ≤ g.r - 1) (rest : List Value) : X_spec_l3RowOf [gridP g rest, .int .i64 i] [] = some (slO 0 (rowL g i).length, [ownB eC (rowL g i)]) := by
  obtain ⟨w1, w2, w3, f1, f2, f3, f4, f5, _⟩ := row_facts hf h0 h1
  have hs := sl_row hf h0 h1
  have hl : (rowL g i).length < 1000000000 := by omega
  have ha := fun m c => apL_frS (E := eC) (m := m) (sz := 2) (bytes := 16) (n := 0) (o := 0) (len := 0) (c := c) (l := rowL g i) rfl (by omega) (by omega)
  simp +contextual -implicitDefEqProofs [X_spec_l3RowOf, retK_eq, w1, w2, w3, hs, hl, ha]
def txtL (l : List CellT) : List Int := l.flatMap fun x => encB x.c
theorem txtL_cons (x : CellT) (l : List CellT) : txtL (x :: l) = encB x.c ++ txtL l := rfl
@[simp] theorem cell_c (p r : List CellT) (x : CellT) : (cellsE eC (p ++ x :: r))[p.length * 2]? = some (.int .i64 x.c) := by
  have := cell_at eC (l := p ++ x :: r) (i := p.length) (o := 0) (by simp) (by decide)
  rw [gt_mid] at this
  exact this
@[simp] theorem cell_a (p r : List CellT) (x : CellT) : (cellsE eC (p ++ x :: r))[p.length * 2 + 1]? = some (.int .i64 x.a) := by
  have := cell_at eC (l := p ++ x :: r) (i := p.length) (o := 1) (by simp) (by decide)
  rw [gt_mid] at this
  exact this
@[simp] theorem cell_c' (p r : List CellT) (x : CellT) (h : p.length * 2 < (cellsE eC (p ++ x :: r)).length) : (cellsE eC (p ++ x :: r))[p.length * 2]'h = .int .i64 x.c := by
  have := cell_c p r x
  rw [List.getElem?_eq_getElem h] at this
  exact Option.some.inj this
@[simp] theorem cell_a' (p r : List CellT) (x : CellT) (h : p.length * 2 + 1 < (cellsE eC (p ++ x :: r)).length) : (cellsE eC (p ++ x :: r))[p.length * 2 + 1]'h = .int .i64 x.a := by
  have := cell_a p r x
  rw [List.getElem?_eq_getElem h] at this
  exact Option.some.inj this
theorem l_spec_l5Text (r : List CellT) : ∀ (p : List CellT) (out : List Int) (q n : Nat), r.length < q → n = (p ++ r).length → n < 1000 → out.length ≤ 3 * p.length → (∀ x ∈ r, 0 ≤ x.c ∧ x.c ≤ 65535) → L_spec_l5Text 0 q 0 [slO 0 out.length, slO 1 n, .int .i64 p.length] [ownB eU8 out, ownB eC (p ++ r)] = some (.string (bstr (out ++ txtL r)), []) := by
  induction r with
  | nil =>
    intro p out q n hq hn hl ho hr
    obtain ⟨q, rfl⟩ : ∃ n, q = n + 1 := ⟨q - 1, by omega⟩
    subst hn
    simp -implicitDefEqProofs [L_spec_l5Text, retK_eq, txtL]
  | cons x r ih =>
    intro p out q n hq hn hl ho hr
    obtain ⟨q, rfl⟩ : ∃ n, q = n + 1 := ⟨q - 1, by omega⟩
    have hx := hr x (by simp)
    have he := encB_len x.c
    have h := ih (p ++ [x]) (out ++ encB x.c) q n (by simp at hq; omega) (by simpa using hn) hl (by simp; omega) (fun y hy => hr y (by simp [hy]))
    simp at h
    have hn' : n = p.length + (r.length + 1) := by simpa using hn
    subst hn'
    have hw := wrap_next (n := p.length) (by omega)
    have c1 := s_spec_l1Encode x.c hx.1 hx.2
    have ha := fun m n o c n2 o2 c2 => apL_sl (m := m) (sz := 1) (bytes := 1) (n := n) (o := o) (len := out.length) (c := c) (n2 := n2) (o2 := o2) (len2 := (encB x.c).length) (c2 := c2) (by omega) (by omega)
    have hb := fun m n cs k => apB_own (E := eU8) (m := m) (l := out) (n := n) (sz := 1) (cs := cs) (k := k) rfl
    simp +contextual -implicitDefEqProofs [L_spec_l5Text, retK_eq, cutK_eq, hw, c1, ha, hb, h, txtL_cons]
theorem l_impl_rowText (r : List CellT) : ∀ (p : List CellT) (out : List Int) (q n : Nat), r.length < q → n = (p ++ r).length → n < 1000 → out.length ≤ 3 * p.length → (∀ x ∈ r, 0 ≤ x.c ∧ x.c ≤ 65535) → L_impl_Screen_rowText 0 q 0 [slO 0 out.length, frS eC (p ++ r), .int .i64 n, .int .i64 p.length] [ownB eU8 out] = some (.string (bstr (out ++ txtL r)), []) := by
  induction r with
  | nil =>
    intro p out q n hq hn hl ho hr
    obtain ⟨q, rfl⟩ : ∃ n, q = n + 1 := ⟨q - 1, by omega⟩
    subst hn
    simp -implicitDefEqProofs [L_impl_Screen_rowText, retK_eq, txtL]
  | cons x r ih =>
    intro p out q n hq hn hl ho hr
    obtain ⟨q, rfl⟩ : ∃ n, q = n + 1 := ⟨q - 1, by omega⟩
    have hx := hr x (by simp)
    have he := encB_len x.c
    have h := ih (p ++ [x]) (out ++ encB x.c) q n (by simp at hq; omega) (by simpa using hn) hl (by simp; omega) (fun y hy => hr y (by simp [hy]))
    simp at h
    have hn' : n = p.length + (r.length + 1) := by simpa using hn
    subst hn'
    simp at h
    have hw := wrap_next (n := p.length) (by omega)
    have hix := ixa_mid eC (sz := 2) rfl .i64 p x r
    have c1 := s_impl_encode x.c hx.1 hx.2
    have ha := fun m n o c n2 o2 c2 => apL_sl (m := m) (sz := 1) (bytes := 1) (n := n) (o := o) (len := out.length) (c := c) (n2 := n2) (o2 := o2) (len2 := (encB x.c).length) (c2 := c2) (by omega) (by omega)
    have hb := fun m n cs k => apB_own (E := eU8) (m := m) (l := out) (n := n) (sz := 1) (cs := cs) (k := k) rfl
    simp +contextual -implicitDefEqProofs [L_impl_Screen_rowText, retK_eq, cutK_eq, hw, hix, c1, ha, hb, h, txtL_cons]
theorem s_spec_l5Text {s : ScrT} {i : Int} (hf : faultG s.g = 0) (h0 : 0 ≤ i) (h1 : i ≤ s.g.r - 1) : X_spec_l5Text [scrP s, .int .i64 i] [] = some (.string (bstr (txtL (rowL s.g i))), []) := by
  obtain ⟨_, _, _, _, _, _, _, f5, f6⟩ := row_facts hf h0 h1
  have c1 := fun rest => s_spec_l3RowOf hf h0 h1 rest
  have h := l_spec_l5Text (rowL s.g i) [] [] QQ (rowL s.g i).length (by unfold QQ; omega) rfl (by omega) (by simp) f6
  rw [show ownB eU8 [] = ⟨[], 1, true, true⟩ from rfl] at h
  simp at h
  simp +contextual -implicitDefEqProofs [X_spec_l5Text, retK_eq, cutK_eq, c1, h]
theorem s_impl_rowText {s : ScrT} {i : Int} (hf : faultG s.g = 0) (h0 : 0 ≤ i) (h1 : i ≤ s.g.r - 1) : X_impl_Screen_rowText [scrP s, .int .i64 i] [] = some (.string (bstr (txtL (rowL s.g i))), []) := by
  obtain ⟨w1, w2, w3, _, _, _, _, f5, f6⟩ := row_facts hf h0 h1
  have hs := sl_row hf h0 h1
  have h := l_impl_rowText (rowL s.g i) [] [] QQ (rowL s.g i).length (by unfold QQ; omega) rfl (by omega) (by simp) f6
  rw [show ownB eU8 [] = ⟨[], 1, true, true⟩ from rfl] at h
  simp at h
  simp +contextual -implicitDefEqProofs [X_impl_Screen_rowText, retK_eq, cutK_eq, w1, w2, w3, hs, h]
def resT (s : ScrT) (i : Int) : Int × ByteArray := if faultS s = 0 then (if inB i 0 (s.g.r - 1) = true then (0, bstr (txtL (rowL s.g i))) else (3, .empty)) else (faultS s, .empty)
theorem faultG_of {s : ScrT} (h : faultS s = 0) : faultG s.g = 0 := by
  unfold faultS at h
  split at h
  · assumption
  · rename_i hh; exact absurd h hh
theorem s_spec_RowText (s : ScrT) (i : Int) (hs : s.small) : X_spec_RowText [scrV s, .int .i64 i] [] = some (.agg #[.int .i64 (resT s i).1, .string (resT s i).2], []) := by
  have c1 := s_spec_l5Fault s hs
  by_cases hf : faultS s = 0
  · have hb := szB_b (szB_of (faultG_of hf))
    have hw : IntKind.i64.wrap (s.g.r - 1) = s.g.r - 1 := wrap_i64 (by omega) (by omega)
    cases hi : inB i 0 (s.g.r - 1)
    · simp +contextual -implicitDefEqProofs [X_spec_RowText, retK_eq, c1, hf, hw, s_spec_l1In, hi, resT]
    · have hi' := inB_iff.mp hi
      have c2 := s_spec_l5Text (faultG_of hf) hi'.1 hi'.2
      simp +contextual -implicitDefEqProofs [X_spec_RowText, retK_eq, c1, c2, hf, hw, s_spec_l1In, hi, resT]
  · simp +contextual -implicitDefEqProofs [X_spec_RowText, retK_eq, c1, hf, resT]
theorem s_impl_RowText (s : ScrT) (i : Int) (hs : s.small) : X_impl_RowText [scrV s, .int .i64 i] [] = some (.agg #[.int .i64 (resT s i).1, .string (resT s i).2], []) := by
  have c1 := s_impl_ScreenFault s hs
  by_cases hf : faultS s = 0
  · have hb := szB_b (szB_of (faultG_of hf))
    have hw : IntKind.i64.wrap (s.g.r - 1) = s.g.r - 1 := wrap_i64 (by omega) (by omega)
    cases hi : inB i 0 (s.g.r - 1)
    · simp +contextual -implicitDefEqProofs [X_impl_RowText, retK_eq, c1, hf, hw, s_impl_in, hi, resT]
    · have hi' := inB_iff.mp hi
      have c2 := s_impl_rowText (faultG_of hf) hi'.1 hi'.2
      simp +contextual -implicitDefEqProofs [X_impl_RowText, retK_eq, c1, c2, hf, hw, s_impl_in, hi, resT]
  · simp +contextual -implicitDefEqProofs [X_impl_RowText, retK_eq, c1, hf, resT]
theorem s_eqTextResult (a : Int) (t : ByteArray) : X_laws_eqTextResult [.agg #[.int .i64 a, .string t], .agg #[.int .i64 a, .string t]] [] = some (.bool true, []) := by
  simp +contextual -implicitDefEqProofs [X_laws_eqTextResult, retK_eq]
end Go.Ab
