/- What the functions of the program answer, for all arguments that the theorems name as conditions. -/
import Derived.Test.YtnmjgjedkdmefaaS12Md
import Derived.Test.YtnmjgjedkdmefaaS12Ma
import Derived.Test.YtnmjgjedkdmefaaFD
set_option linter.unusedVariables false
set_option linter.unusedSimpArgs false
namespace Go.Ab
set_option maxHeartbeats 8000000
theorem s_pick6 (l : List Int) (a x0 x1 x2 x3 x4 x5 : Int) (hl : bytesOk l) (ha : atOk a) : X_spec_l1Pick [pt 0, .slice (some ⟨1, 0, none⟩) 6 6] [srcM l a, ⟨[.int .i64 x0, .int .i64 x1, .int .i64 x2, .int .i64 x3, .int .i64 x4, .int .i64 x5], 1, true, true⟩] = some (.int .i64 (pk l a [x0, x1, x2, x3, x4, x5]), [srcM l (a + 1), ⟨[.int .i64 x0, .int .i64 x1, .int .i64 x2, .int .i64 x3, .int .i64 x4, .int .i64 x5], 1, true, true⟩]) := s_pickG l a [x0, x1, x2, x3, x4, x5] hl ha (by simp)
theorem s_pick8 (l : List Int) (a x0 x1 x2 x3 x4 x5 x6 x7 : Int) (hl : bytesOk l) (ha : atOk a) : X_spec_l1Pick [pt 0, .slice (some ⟨1, 0, none⟩) 8 8] [srcM l a, ⟨[.int .i64 x0, .int .i64 x1, .int .i64 x2, .int .i64 x3, .int .i64 x4, .int .i64 x5, .int .i64 x6, .int .i64 x7], 1, true, true⟩] = some (.int .i64 (pk l a [x0, x1, x2, x3, x4, x5, x6, x7]), [srcM l (a + 1), ⟨[.int .i64 x0, .int .i64 x1, .int .i64 x2, .int .i64 x3, .int .i64 x4, .int .i64 x5, .int .i64 x6, .int .i64 x7], 1, true, true⟩]) := s_pickG l a [x0, x1, x2, x3, x4, x5, x6, x7] hl ha (by simp)
abbrev usW (f : Int) : WayT := ⟨f, 127, 21, 23, 4, 3, 22⟩
theorem s_l10Usual (f : Int) : X_spec_l10Usual [.int .i64 f] [] = some (wayV (usW f), []) := by
  simp -implicitDefEqProofs [X_spec_l10Usual, retK_eq]
theorem s_l10Draw (l : List Int) (a : Int) (hl : bytesOk l) (h0 : 0 ≤ a) (h1 : a ≤ 100000) : ∃ f : Int, X_spec_l10Draw [pt 0] [srcM l a] = some (wayV (usW f), [srcM l (a + 1 + 1)]) := by
  have n1 := s_l1Next l a 512 hl ⟨by omega, by omega⟩
  have k1 := fun x0 x1 x2 x3 x4 x5 => s_pick6 l (a + 1) x0 x1 x2 x3 x4 x5 hl ⟨by omega, by omega⟩
  refine ⟨pk l (a + 1) [511, 511, 507, nx l a 512, 2, 510], ?_⟩
  simp (maxSteps := 1000000) -implicitDefEqProofs [X_spec_l10Draw, retK_eq, n1, k1, s_l10Usual]
theorem s_l1Chance (l : List Int) (a n : Int) (hl : bytesOk l) (h0 : 0 ≤ a) (h1 : a ≤ 100000) : X_spec_l1Chance [pt 0, .int .i64 n] [srcM l a] = some (.bool (decide (nx l a n = 0)), [srcM l (a + 1)]) := by
  have n1 := s_l1Next l a n hl ⟨by omega, by omega⟩
  by_cases h : nx l a n = 0
  · rw [h] at n1
    simp -implicitDefEqProofs [X_spec_l1Chance, retK_eq, n1, h]
  · simp -implicitDefEqProofs [X_spec_l1Chance, retK_eq, n1, h]
theorem s_l1Encode (c : Int) (h : c = 228 ∨ c = 8364 ∨ c = 1) : ∃ bs : List Int, bs.length ≤ 3 ∧ (∀ x ∈ bs, 0 ≤ x ∧ x < 256) ∧ X_spec_l1Encode [.int .i64 c] [] = some (slO 0 bs.length, [ownB eU8 bs]) := by
  rcases h with rfl | rfl | rfl
  · refine ⟨[195, 164], by simp, by simp, ?_⟩
    simp -implicitDefEqProofs [X_spec_l1Encode, retK_eq]
    rfl
  · refine ⟨[226, 130, 172], by simp, by simp, ?_⟩
    simp -implicitDefEqProofs [X_spec_l1Encode, retK_eq]
    rfl
  · refine ⟨[1], by simp, by simp, ?_⟩
    simp -implicitDefEqProofs [X_spec_l1Encode, retK_eq]
    rfl
def TyR (l : List Int) (a : Int) (k : Nat) (r : Option VM) (out : List Int) : Prop := ∃ (bs : List Int) (b : Int), bs.length ≤ out.length + 3 * k ∧ bOk bs ∧ a ≤ b ∧ b ≤ a + 3 * k ∧ r = some (slO 1 bs.length, [srcM l b, ownB eU8 bs])
theorem l_l11Typed (l : List Int) (hl : bytesOk l) (nn : Int) (k : Nat) : ∀ (out : List Int) (a : Int) (q : Nat), 0 ≤ a → a + 3 * k ≤ 90000 → k < q → out.length + 3 * k ≤ 100000 → bOk out → TyR l a k (L_spec_l11Typed 1 q 0 [pt 0, .int .i64 nn, slO 1 out.length, .int .i64 k] [srcM l a, ownB eU8 out]) out := by
  induction k with
  | zero =>
    intro out a q h0 h1 hq ho hb
    obtain ⟨q, rfl⟩ : ∃ n, q = n + 1 := ⟨q - 1, by omega⟩
    refine ⟨out, a, by omega, hb, by omega, by omega, ?_⟩
    simp -implicitDefEqProofs [L_spec_l11Typed, retK_eq]
  | succ k ih =>
    intro out a q h0 h1 hq ho hb
    obtain ⟨q, rfl⟩ : ∃ n, q = n + 1 := ⟨q - 1, by omega⟩
    have n1 := s_l1Next l a 12 hl ⟨by omega, by omega⟩
    have hw : IntKind.i64.wrap ((k : Int) + 1 - 1) = k := by
      rw [show (k : Int) + 1 - 1 = k by omega]
      exact wrap_i64 (by omega) (by omega)
    have hw2 : IntKind.i64.wrap (k : Int) = k := wrap_i64 (by omega) (by omega)
    have g : (0 : Int) < (k : Int) + 1 := by omega
    have p1 := fun m n o c kk o2 c2 len2 (h : out.length + len2 < 1000000000) => apL_sl (m := m) (sz := 1) (bytes := 1) (n := n) (o := o) (len := out.length) (c := c) (n2 := kk) (o2 := o2) (len2 := len2) (c2 := c2) h (by omega)
    have q1 := fun m n o c kk o2 c2 => p1 m n o c kk o2 c2 1 (by omega)
    have p3 := fun m n cs kk => apB_own (E := eU8) (m := m) (l := out) (n := n) (sz := 1) (cs := cs) (k := kk) rfl
    have next : ∀ (bs : List Int) (a' : Int), bs.length ≤ 3 → bOk bs → a + 1 ≤ a' → a' ≤ a + 3 → TyR l a (k + 1) (L_spec_l11Typed 1 q 0 [pt 0, .int .i64 nn, slO 1 (out ++ bs).length, .int .i64 k] [srcM l a', ownB eU8 (out ++ bs)]) out := fun bs a' e1 e2 e3 e4 => by
      obtain ⟨bs2, b, f1, f2, f3, f4, f5⟩ := ih (out ++ bs) a' q (by omega) (by push_cast at h1; omega) (by omega) (by simp; omega) (fun x hx => by
        rcases List.mem_append.1 hx with h | h
        · exact hb x h
        · exact e2 x h)
      refine ⟨bs2, b, by simp at f1; omega, f2, by omega, by push_cast; omega, f5⟩
    by_cases c0 : nx l a 12 = 0
    · rw [c0] at n1
      have k1 := fun x0 x1 x2 x3 x4 x5 x6 x7 => s_pick8 l (a + 1) x0 x1 x2 x3 x4 x5 x6 x7 hl ⟨by omega, by omega⟩
      have hm := pk_mem hl (a := a + 1) ⟨by omega, by omega⟩ (xs := [127, 21, 23, 4, 3, 22, 13, 10]) (by simp)
      have hbd : 0 ≤ pk l (a + 1) [127, 21, 23, 4, 3, 22, 13, 10] ∧ pk l (a + 1) [127, 21, 23, 4, 3, 22, 13, 10] < 256 := by
        simp only [List.mem_cons, List.not_mem_nil, or_false] at hm
        omega
      have hv : IntKind.u8.wrap (pk l (a + 1) [127, 21, 23, 4, 3, 22, 13, 10]) = pk l (a + 1) [127, 21, 23, 4, 3, 22, 13, 10] := wrap_u8' hbd.1 hbd.2
      have h := next [pk l (a + 1) [127, 21, 23, 4, 3, 22, 13, 10]] (a + 1 + 1) (by simp) (by intro x hx; simp at hx; omega) (by omega) (by omega)
      obtain ⟨bs, b, f1, f2, f3, f4, f5⟩ := h
      refine ⟨bs, b, f1, f2, f3, f4, ?_⟩
      simp at f5
      simp (maxSteps := 1000000) -implicitDefEqProofs [L_spec_l11Typed, cutK_eq, g, n1, k1, hv, hw, hw2, q1, p3, u8_app, rd_one, f5]
    by_cases c1 : nx l a 12 = 1
    · rw [c1] at n1
      obtain ⟨bs, b, f1, f2, f3, f4, f5⟩ := next [127] (a + 1) (by simp) (by intro x hx; simp at hx; omega) (by omega) (by omega)
      refine ⟨bs, b, f1, f2, f3, f4, ?_⟩
      simp at f5
      simp (maxSteps := 1000000) -implicitDefEqProofs [L_spec_l11Typed, cutK_eq, g, n1, hw, hw2, q1, p3, u8_app, rd_one, f5]
    by_cases c2 : nx l a 12 = 2
    · rw [c2] at n1
      have k1 := fun x y z => s_pick3 l (a + 1) x y z hl ⟨by omega, by omega⟩
      have hm := pk_mem hl (a := a + 1) ⟨by omega, by omega⟩ (xs := [228, 8364, 1]) (by simp)
      simp only [List.mem_cons, List.not_mem_nil, or_false] at hm
      obtain ⟨es, e1, e2, e3⟩ := s_l1Encode _ hm
      obtain ⟨bs, b, f1, f2, f3, f4, f5⟩ := next es (a + 1 + 1) e1 e2 (by omega) (by omega)
      refine ⟨bs, b, f1, f2, f3, f4, ?_⟩
      have q3 := fun m n o c kk o2 c2 => p1 m n o c kk o2 c2 es.length (by omega)
      have hrd := rd_all es
      rw [Nat.mul_one] at hrd
      have hce : (⟨cellsE eU8 out ++ cellsE eU8 es, 1, true, true⟩ : Blk) = ownB eU8 (out ++ es) := by rw [← cellsE_append]; rfl
      simp at f5
      simp (maxSteps := 1000000) -implicitDefEqProofs [L_spec_l11Typed, cutK_eq, g, n1, k1, e3, hw, hw2, q3, p3, hrd, hce, f5]
    · have k1 := fun x y z u => s_pick4 l (a + 1) x y z u hl ⟨by omega, by omega⟩
      have hm := pk_mem hl (a := a + 1) ⟨by omega, by omega⟩ (xs := [97, 98, 99, 32]) (by simp)
      have hbd : 0 ≤ pk l (a + 1) [97, 98, 99, 32] ∧ pk l (a + 1) [97, 98, 99, 32] < 256 := by
        simp only [List.mem_cons, List.not_mem_nil, or_false] at hm
        omega
      have hv : IntKind.u8.wrap (pk l (a + 1) [97, 98, 99, 32]) = pk l (a + 1) [97, 98, 99, 32] := wrap_u8' hbd.1 hbd.2
      obtain ⟨bs, b, f1, f2, f3, f4, f5⟩ := next [pk l (a + 1) [97, 98, 99, 32]] (a + 1 + 1) (by simp) (by intro x hx; simp at hx; omega) (by omega) (by omega)
      refine ⟨bs, b, f1, f2, f3, f4, ?_⟩
      simp at f5
      simp (maxSteps := 1000000) -implicitDefEqProofs [L_spec_l11Typed, cutK_eq, g, n1, c0, c1, c2, k1, hv, hw, hw2, q1, p3, u8_app, rd_one, f5]
theorem s_l11Typed (l : List Int) (hl : bytesOk l) (nn a : Int) (h0 : 0 ≤ a) (h1 : a ≤ 1000) (hn0 : 1 ≤ nn) (hn : nn ≤ 100) : ∃ (bs : List Int) (b : Int), bs.length ≤ 300 ∧ bOk bs ∧ a ≤ b ∧ b ≤ a + 301 ∧ X_spec_l11Typed [pt 0, .int .i64 nn] [srcM l a] = some (slO 1 bs.length, [srcM l b, ownB eU8 bs]) := by
  have n1 := s_l1Next l a nn hl ⟨by omega, by omega⟩
  have nb := nx_bd hl (a := a) (n := nn) ⟨by omega, by omega⟩ (by omega)
  obtain ⟨k, hk⟩ := Int.eq_ofNat_of_zero_le nb.1
  rw [hk] at n1 nb
  obtain ⟨bs, b, b1, b2, b3, b4, b5⟩ := l_l11Typed l hl nn k [] (a + 1) QQ (by omega) (by omega) (by unfold QQ; omega) (by simp; omega) (fun x hx => by cases hx)
  have e0 : (⟨[], 1, true, true⟩ : Blk) = ownB eU8 [] := rfl
  refine ⟨bs, b, by simp at b1; omega, b2, by omega, by omega, ?_⟩
  simp at b5
  simp (maxSteps := 1000000) -implicitDefEqProofs [X_spec_l11Typed, cutK_eq, e0, n1, b5]
end Go.Ab
namespace Go.Ab
set_option maxHeartbeats 8000000
abbrev zW : Blk := blk [.int .i64 0, .int .i64 0, .int .i64 0, .int .i64 0, .int .i64 0, .int .i64 0, .int .i64 0]
abbrev zL4 : Blk := blk [.slice none 0 0, .slice none 0 0, .bool false, .int .i64 0]
abbrev dM (l : List Int) (a : Int) (w : WayT) (R : Option (List (List Int))) (E : EdT) (t : Bool) (n : Int) (lst : List Int) : Mem := srcM l a :: zW :: zL4 :: wB w :: blk [rV 6 R, eV (6 + (rB R).length) E, .bool t, .int .i64 n] :: ownB eU8 lst :: (rB R ++ eB' E)
@[simp] def Fm.nR (R : Option (List (List Int))) : Fm → Option (List (List Int))
  | .u _ => R
  | .t _ => R
  | .n r _ => some r
@[simp] def Fm.nE : Fm → EdT
  | .u E => E
  | .t c => some (c, [], c.length)
  | .n _ E => E
theorem Fm.ln_eq (F : Fm) (R : Option (List (List Int))) (t : Bool) (n : Int) : lnO (F.nR R) F.nE t n = F.ln R t n := by cases F <;> rfl
theorem Fm.wf_nE {F : Fm} (h : F.wf) : wfE F.nE := by
  cases F with
  | u E => exact h
  | t c => exact ⟨Nat.le_refl _, h⟩
  | n r E => exact h
theorem d_step (l : List Int) (a : Int) (w : WayT) (R : Option (List (List Int))) (E : EdT) (t : Bool) (n b : Int) (t' : Bool) (n' : Int) (o lst : List Int) (F : Fm) (hF : F.ok E) (i : Int) (J : List Value → Mem → Option VM) (hX : X_spec_l11Feed [ptr0, pP .a 1, .int .u8 b] (fM w .a nilW nilW R E t n) = some (slO (fK .a R E) o.length, F.mem w .a nilW nilW R E t' n' [ownB eU8 o])) : bo (fun r5 => cutK 1 r5.2 [pt 0] [pt 0, pt 1, pt 2, pt 3, pt 4, slO 5 lst.length, .int .i64 i] J) (rcall X_spec_l11Feed [pt 3, pt 4, .int .u8 b] (dM l a w R E t n lst)) = J [pt 0, pt 1, pt 2, pt 3, pt 4, slO 5 lst.length, .int .i64 i] (dM l a w (F.nR R) F.nE t' n' lst) := by
  cases F with
  | u E' =>
    rcases E' with _ | ⟨c', j', m'⟩
    · rcases R with _ | r <;> rcases E with _ | ⟨cu, j, m⟩ <;> simp -implicitDefEqProofs [fK, Fm.mem] at hX <;> simp (maxSteps := 1000000) -implicitDefEqProofs [cutK_eq, hX, dM]
    · obtain ⟨c, j, m, rfl, h⟩ := hF
      rcases R with _ | r <;> simp -implicitDefEqProofs [fK, Fm.mem] at hX <;> simp (maxSteps := 1000000) -implicitDefEqProofs [cutK_eq, hX, h, dM]
  | t c => rcases R with _ | r <;> rcases E with _ | ⟨cu, j, m⟩ <;> simp -implicitDefEqProofs [fK, Fm.mem] at hX <;> simp (maxSteps := 1000000) -implicitDefEqProofs [cutK_eq, hX, dM]
  | n rr E' =>
    rcases E' with _ | ⟨c', j', m'⟩
    · rcases R with _ | r <;> rcases E with _ | ⟨cu, j, m⟩ <;> simp -implicitDefEqProofs [fK, Fm.mem] at hX <;> simp (maxSteps := 1000000) -implicitDefEqProofs [cutK_eq, hX, dM]
    · obtain ⟨c, j, m, rfl, h⟩ := hF
      rcases R with _ | r <;> simp -implicitDefEqProofs [fK, Fm.mem] at hX <;> simp (maxSteps := 1000000) -implicitDefEqProofs [cutK_eq, hX, h, dM]
theorem l_l11Draw (l : List Int) (a : Int) (w : WayT) (lst : List Int) (hlst : lst.length < 1000000) (r : List Int) : ∀ (p : List Int) (R : Option (List (List Int))) (E : EdT) (t : Bool) (n : Int) (q : Nat), lst = p ++ r → bOk r → r.length < q → lnOk (lnO R E t n) → wfE E → ∃ R' E' t' n', lnOk (lnO R' E' t' n') ∧ wfE E' ∧ L_spec_l11Draw 1 q 0 [pt 0, pt 1, pt 2, pt 3, pt 4, slO 5 lst.length, .int .i64 p.length] (dM l a w R E t n lst) = some (.tuple #[wayV w, .agg #[rV 1 R', eV (1 + (rB R').length) E', .bool t', .int .i64 n']], srcM l a :: (rB R' ++ eB' E')) := by
  induction r with
  | nil =>
    intro p R E t n q hp hb hq hok hE
    obtain ⟨q, rfl⟩ : ∃ n, q = n + 1 := ⟨q - 1, by omega⟩
    refine ⟨R, E, t, n, hok, hE, ?_⟩
    have e : lst = p := by simpa using hp
    subst e
    rcases R with _ | r <;> rcases E with _ | ⟨cu, j, m⟩ <;> simp (maxSteps := 1000000) -implicitDefEqProofs [L_spec_l11Draw, retK_eq]
  | cons x r ih =>
    intro p R E t n q hp hb hq hok hE
    obtain ⟨q, rfl⟩ : ∃ n, q = n + 1 := ⟨q - 1, by omega⟩
    have hx := hb x (by simp)
    obtain ⟨F, t', n', g1, g2, g3, g4⟩ := x_Feed w .a nilW nilW rfl rfl R E t n x hok.1 hE (fun t' n' => show (lnO R E t' n').small from (lnOk_small hok : (lnO R E t n).small)) (by have := hok.2.2.1; show -1000 ≤ n; simp only at this; omega) (by have := hok.2.2.2.1; simp only at this; omega) hx.1 hx.2
    have hok2 := feedS_ok w hok hx.1 hx.2
    rw [← g4, ← Fm.ln_eq] at hok2
    obtain ⟨R', E', t2, n2, i1, i2, i3⟩ := ih (p ++ [x]) (F.nR R) F.nE t' n' q (by simp [hp]) (fun y hy => hb y (by simp [hy])) (by simp at hq; omega) hok2 (Fm.wf_nE g2)
    have hstep := d_step l a w R E t n x t' n' _ lst F g1 ((p.length : Int) + 1) (L_spec_l11Draw 1 q 0) g3
    have e2 : ((p ++ [x]).length : Int) = (p.length : Int) + 1 := by simp
    rw [e2] at i3
    refine ⟨R', E', t2, n2, i1, i2, Eq.trans ?_ (hstep.trans i3)⟩
    have hw := wrap_next (n := p.length) (by rw [hp] at hlst; simp at hlst; omega)
    have hlt : (p.length : Int) < lst.length := by rw [hp]; simp
    have hxx := ixa_sl (sz := 1) .i64 (n := 5) (o := 0) (len := lst.length) (c := lst.length) (j := (p.length : Int)) (by omega) hlt
    simp only [Int.toNat_natCast] at hxx
    have hc : (cellsE eU8 lst)[p.length]? = some (.int .u8 x) := by rw [hp]; exact cell_i .u8 p r x
    have h5 : (dM l a w R E t n lst)[5]? = some (ownB eU8 lst) := rfl
    generalize dM l a w R E t n lst = M at *
    generalize lst.length = LL at *
    simp -implicitDefEqProofs [-rcall_eq, L_spec_l11Draw, hlt, hxx, h5, hc, hw]
end Go.Ab
namespace Go.Ab
set_option maxHeartbeats 8000000
def bytesL (L : LnT) : Prop := (∀ x ∈ L.rows, bOk x) ∧ bOk L.cur
def lnD (L : LnT) : Prop := L.rows.length ≤ 50 ∧ (∀ x ∈ L.rows, x.length ≤ 100) ∧ L.cur.length ≤ 100 ∧ bytesL L
theorem lnOk_D {l : LnT} (h : lnOk l) : lnD l := by
  obtain ⟨g1, g2, g3, g4, g5, g6⟩ := h
  have hs : ∀ (r : List (List Int)) x, x ∈ r → x.length ≤ sumL r := by
    intro r
    induction r with
    | nil => intro x hx; cases hx
    | cons y r ih =>
      intro x hx
      rw [sumL]
      rcases List.mem_cons.1 hx with rfl | hx
      · omega
      · have := ih x hx
        omega
  unfold LnT.size at g2
  exact ⟨by omega, fun x hx => by have := hs _ x hx; omega, by omega, g5, g6⟩
theorem q_l11Draw (l : List Int) (hl : bytesOk l) : ∃ (w : WayT) (L : LnT) (b : Int), lnOk L ∧ 0 ≤ b ∧ b ≤ 700 ∧ qX X_spec_l11Draw [pt 0] [srcM l 0] = some (.tuple #[wayV w, lnV L], [srcM l b]) := by
  obtain ⟨f, d1⟩ := s_l10Draw l 0 hl (by omega) (by omega)
  obtain ⟨bs, b, b1, b2, b3, b4, b5⟩ := s_l11Typed l hl 20 (0 + 1 + 1) (by omega) (by omega) (by omega) (by omega)
  have ch := s_l1Chance l b 6 hl (by omega) (by omega)
  have fin : ∀ (lst : List Int) (b' : Int), bOk lst → lst.length ≤ 600 → 0 ≤ b' → b' ≤ 700 → (X_spec_l11Draw [pt 0] [srcM l 0] = L_spec_l11Draw 1 QQ 0 [pt 0, pt 1, pt 2, pt 3, pt 4, slO 5 lst.length, .int .i64 0] (dM l b' (usW f) none none false 0 lst)) → ∃ (w : WayT) (L : LnT) (b : Int), lnOk L ∧ 0 ≤ b ∧ b ≤ 700 ∧ qX X_spec_l11Draw [pt 0] [srcM l 0] = some (.tuple #[wayV w, lnV L], [srcM l b]) := by
    intro lst b' h1 h2 h3 h4 h5
    obtain ⟨R, E, t, n, i1, i2, i3⟩ := l_l11Draw l b' (usW f) lst (by omega) lst [] none none false 0 QQ rfl h1 (by unfold QQ; omega) ⟨by simp, by simp [LnT.size, sumL], by simp, by simp, fun x hx => by simp at hx, fun x hx => by simp at hx⟩ trivial
    rw [List.length_nil] at i3
    have i3 := h5.trans i3
    refine ⟨usW f, lnO R E t n, b', i1, h3, h4, ?_⟩
    rcases R with _ | r <;> rcases E with _ | ⟨cu, j, m⟩ <;> simp -implicitDefEqProofs at i3 <;> simp (maxSteps := 1000000) -implicitDefEqProofs [qX, i3, hE, frS_nil]
  by_cases hc : nx l b 6 = 0
  · obtain ⟨bs2, c, c1, c2, c3, c4, c5⟩ := s_l11Typed l hl 60 (b + 1) (by omega) (by omega) (by omega) (by omega)
    refine fin (bs ++ bs2) c (bOk_app b2 c2) (by simp; omega) (by omega) (by omega) ?_
    rw [hc] at ch
    have hap := fun M => ap_gen M M.length rfl bs bs2 (by omega)
    have p1 := fun m n o c kk o2 c2 => apL_sl (m := m) (sz := 1) (bytes := 1) (n := n) (o := o) (len := bs.length) (c := c) (n2 := kk) (o2 := o2) (len2 := bs2.length) (c2 := c2) (by omega) (by omega)
    have p3 := fun m n cs kk => apB_own (E := eU8) (m := m) (l := bs) (n := n) (sz := 1) (cs := cs) (k := kk) rfl
    have hrd := rd_all bs2
    rw [Nat.mul_one] at hrd
    have hce : (⟨cellsE eU8 bs ++ cellsE eU8 bs2, 1, true, true⟩ : Blk) = ownB eU8 (bs ++ bs2) := by rw [← cellsE_append]; rfl
    simp at d1 b5 c5 ch
    simp (maxSteps := 1000000) -implicitDefEqProofs [X_spec_l11Draw, d1, b5, c5, ch, cutK_eq, p1, p3, hrd, hce, dM]
  · refine fin bs (b + 1) b2 (by omega) (by omega) (by omega) ?_
    have hc' : decide (nx l b 6 = 0) = false := by simp [hc]
    rw [hc'] at ch
    simp at d1 b5 ch
    simp (maxSteps := 1000000) -implicitDefEqProofs [X_spec_l11Draw, d1, b5, ch, cutK_eq, dM]
end Go.Ab
namespace Go.Ab
set_option maxHeartbeats 8000000
theorem flat_repE {α : Type} (E : Enc α) (n : Nat) (x : α) : (List.replicate n (E.f x)).flatten = cellsE E (List.replicate n x) := by
  induction n with
  | zero => rfl
  | succ n ih => rw [List.replicate_succ, List.replicate_succ, List.flatten_cons, cellsE_cons, ih]
theorem mk_zeros (n : Nat) (h : n < 1000000000) : ∃ R : List Int, R.length = n ∧ bOk R ∧ ∀ m, mkX m 1 1 [.int .u8 0] (.int .i64 n) (.int .i64 n) = some (slO m.length n, m ++ [ownB eU8 R]) := by
  refine ⟨List.replicate n 0, by simp, fun x hx => by have := List.eq_of_mem_replicate hx; omega, fun m => ?_⟩
  rw [mkX_nat m 1 1 _ n h (by omega)]
  have := flat_repE eU8 n 0
  rw [show eU8.f 0 = [.int .u8 0] from rfl] at this
  rw [this]
  rfl
theorem mk_nils (n : Nat) (h : n < 1000000000) : ∃ Z : List Value, Z.all inert = true ∧ (∀ k m, fzO (k + 2) m (some ⟨Z, 1, true, true⟩) 0 n = some (frS eBS (List.replicate n []))) ∧ ∀ m, mkX m 1 24 [.slice none 0 0] (.int .i64 n) (.int .i64 n) = some (slO m.length n, m ++ [⟨Z, 1, true, true⟩]) := by
  have hfl : (List.replicate n [Value.slice none 0 0]).flatten = List.replicate n (.slice none 0 0) := by
    clear h
    induction n with
    | zero => rfl
    | succ n ih => rw [List.replicate_succ, List.flatten_cons, ih, List.replicate_succ]; rfl
  refine ⟨List.replicate n (.slice none 0 0), ?_, fun k m => ?_, fun m => ?_⟩
  · rw [List.all_eq_true]
    intro x hx
    rw [List.eq_of_mem_replicate hx]
    rfl
  · have hm : ∀ n, mapO (fz (k + 2) m) (List.replicate n (.slice none 0 0)) = some (List.replicate n (roS 0 [])) := by
      intro n
      induction n with
      | zero => rfl
      | succ n ih =>
        rw [List.replicate_succ, mapO_cons, ih, List.replicate_succ]
        rfl
    have hc : ∀ n, cellsE eBS (List.replicate n []) = List.replicate n (roS 0 []) := by
      intro n
      induction n with
      | zero => rfl
      | succ n ih => rw [List.replicate_succ, cellsE_cons, ih, List.replicate_succ]; rfl
    have hf : frS eBS (List.replicate n []) = roS n (List.replicate n (roS 0 [])) := by
      show roS (List.replicate n ([] : List Int)).length (cellsE eBS (List.replicate n [])) = _
      rw [hc, List.length_replicate]
    rw [hf]
    unfold fzO fzO.rdB
    by_cases h0 : n = 0
    · subst h0
      rfl
    · rw [if_neg h0]
      simp only [if_true]
      rw [if_neg (by omega), if_pos ⟨trivial, by simp⟩]
      rw [show List.take (n * 1) (List.drop 0 (List.replicate n (Value.slice none 0 0))) = List.replicate n (.slice none 0 0) by rw [List.drop_zero]; exact List.take_of_length_le (by simp), ob_some, hm]
      rfl
  · rw [mkX_nat m 1 24 _ n h (by omega), hfl]
theorem s_l10Bent (l : List Int) (a : Int) (hl : bytesOk l) (h0 : 0 ≤ a) (h1 : a ≤ 100000) : ∃ (w : WayT) (c : Int), a ≤ c ∧ c ≤ a + 5 ∧ X_spec_l10Bent [pt 0] [srcM l a] = some (wayV w, [srcM l c]) := by
  obtain ⟨f, d1⟩ := s_l10Draw l a hl h0 h1
  have n1 := s_l1Next l (a + 1 + 1) 12 hl ⟨by omega, by omega⟩
  have k2 := fun x y => s_pick2 l (a + 1 + 1 + 1) x y hl ⟨by omega, by omega⟩
  have k4 := fun x y z u => s_pick4 l (a + 1 + 1 + 1) x y z u hl ⟨by omega, by omega⟩
  by_cases c0 : nx l (a + 1 + 1) 12 = 0
  · rw [c0] at n1
    refine ⟨⟨pk l (a + 1 + 1 + 1) [-1, 512], 127, 21, 23, 4, 3, 22⟩, a + 1 + 1 + 1 + 1, by omega, by omega, ?_⟩
    simp (maxSteps := 1000000) -implicitDefEqProofs [X_spec_l10Bent, retK_eq, d1, n1, k2]
  by_cases c1 : nx l (a + 1 + 1) 12 = 1
  · rw [c1] at n1
    refine ⟨⟨f, pk l (a + 1 + 1 + 1) [0, 8, 256, -1], 21, 23, 4, 3, 22⟩, a + 1 + 1 + 1 + 1, by omega, by omega, ?_⟩
    simp (maxSteps := 1000000) -implicitDefEqProofs [X_spec_l10Bent, retK_eq, d1, n1, k4]
  · refine ⟨usW f, a + 1 + 1 + 1, by omega, by omega, ?_⟩
    simp (maxSteps := 1000000) -implicitDefEqProofs [X_spec_l10Bent, retK_eq, d1, n1, c0, c1]
theorem q_l11Bent (l : List Int) (hl : bytesOk l) : ∃ (w : WayT) (L : LnT) (b : Int), lnD L ∧ 0 ≤ b ∧ b ≤ 800 ∧ qX X_spec_l11Bent [pt 0] [srcM l 0] = some (.tuple #[wayV w, lnV L], [srcM l b]) := by
  obtain ⟨w, L, b, o1, b0, b1, d1⟩ := q_l11Draw l hl
  have hq := qcall_eq X_spec_l11Draw
  generalize qX X_spec_l11Draw = Q at *
  have n1 := s_l1Next l b 14 hl ⟨by omega, by omega⟩
  have k2 := fun x y => s_pick2 l (b + 1) x y hl ⟨by omega, by omega⟩
  have k3 := fun x y z => s_pick3 l (b + 1) x y z hl ⟨by omega, by omega⟩
  have oD := lnOk_D o1
  obtain ⟨e1, e2, e3, e4, e5⟩ := oD
  by_cases c0 : nx l b 14 = 0
  · rw [c0] at n1
    obtain ⟨w2, c, g1, g2, g3⟩ := s_l10Bent l (b + 1) hl (by omega) (by omega)
    refine ⟨w2, L, c, ⟨e1, e2, e3, e4, e5⟩, by omega, by omega, ?_⟩
    simp (maxSteps := 2000000) -implicitDefEqProofs [qX, hq, X_spec_l11Bent, retK_eq, d1, n1, g3]
  by_cases c1 : nx l b 14 = 1
  · rw [c1] at n1
    refine ⟨w, ⟨L.rows, L.cur, L.t, pk l (b + 1) [-1, 999, 1000]⟩, b + 1 + 1, ⟨e1, e2, e3, e4, e5⟩, by omega, by omega, ?_⟩
    simp (maxSteps := 2000000) -implicitDefEqProofs [qX, hq, X_spec_l11Bent, retK_eq, d1, n1, k3]
  by_cases c2 : nx l b 14 = 2
  · rw [c2] at n1
    have hm := pk_mem hl (a := b + 1) ⟨by omega, by omega⟩ (xs := [39, 40, 41]) (by simp)
    have hbd : 39 ≤ pk l (b + 1) [39, 40, 41] ∧ pk l (b + 1) [39, 40, 41] ≤ 41 := by
      simp only [List.mem_cons, List.not_mem_nil, or_false] at hm
      omega
    obtain ⟨k, hk⟩ := Int.eq_ofNat_of_zero_le (show 0 ≤ pk l (b + 1) [39, 40, 41] by omega)
    obtain ⟨Z, z1, z2, z3⟩ := mk_zeros k (by omega)
    have f := fun k' m => fzO_own eU8 k' m Z
    rw [z1] at f
    have k3 := k3 39 40 41
    rw [hk] at k3
    refine ⟨w, ⟨L.rows, Z, L.t, L.n⟩, b + 1 + 1, ⟨e1, e2, by show Z.length ≤ 100; omega, e4, z2⟩, by omega, by omega, ?_⟩
    simp (maxSteps := 2000000) -implicitDefEqProofs [-mkX_nat, qX, hq, X_spec_l11Bent, retK_eq, d1, n1, k3, z3, f]
  by_cases c3 : nx l b 14 = 3
  · rw [c3] at n1
    have hm := pk_mem hl (a := b + 1) ⟨by omega, by omega⟩ (xs := [40, 41]) (by simp)
    have hbd : 40 ≤ pk l (b + 1) [40, 41] ∧ pk l (b + 1) [40, 41] ≤ 41 := by
      simp only [List.mem_cons, List.not_mem_nil, or_false] at hm
      omega
    obtain ⟨k, hk⟩ := Int.eq_ofNat_of_zero_le (show 0 ≤ pk l (b + 1) [40, 41] by omega)
    obtain ⟨Z, z1, z2, z3⟩ := mk_nils k (by omega)
    have k2 := k2 40 41
    rw [hk] at k2
    have hnm : nmB ⟨Z, 1, true, true⟩ = [] := nmB_inert z1
    have hlo : ∀ acc, locB acc ⟨Z, 1, true, true⟩ = some ⟨Z, 1, true, true⟩ := fun acc => locB_inert z1
    have hbl : bytesL ⟨List.replicate k [], L.cur, L.t, L.n⟩ := by
      refine ⟨fun x hx => ?_, e5⟩
      rw [List.eq_of_mem_replicate hx]
      intro y hy
      cases hy
    refine ⟨w, ⟨List.replicate k [], L.cur, L.t, L.n⟩, b + 1 + 1, ⟨by simp; omega, fun x hx => by rw [List.eq_of_mem_replicate hx]; simp, e3, hbl⟩, by omega, by omega, ?_⟩
    simp (maxSteps := 2000000) -implicitDefEqProofs [-mkX_nat, qX, hq, X_spec_l11Bent, retK_eq, d1, n1, k2, z3, z1, z2, hnm, hlo]
  · refine ⟨w, L, b + 1, ⟨e1, e2, e3, e4, e5⟩, by omega, by omega, ?_⟩
    simp (maxSteps := 2000000) -implicitDefEqProofs [qX, hq, X_spec_l11Bent, retK_eq, d1, n1, c0, c1, c2, c3]
end Go.Ab
namespace Go.Ab
set_option maxHeartbeats 8000000
theorem s_lwAt (l : List Int) (hl : bytesOk l) (n : Int) (h0 : 1 ≤ n) (h1 : n ≤ 100000) : ∃ c : Int, 0 ≤ c ∧ c < n ∧ X_laws_lwAt [frS eU8 l, .int .i64 3, .int .i64 n] [] = some (.int .i64 c, []) := by
  by_cases hn : n ≤ 1
  · refine ⟨0, by omega, by omega, ?_⟩
    simp -implicitDefEqProofs [X_laws_lwAt, retK_eq, hn]
  have hn0 : ¬ n = 0 := by omega
  by_cases hk : l.length = 0
  · obtain rfl : l = [] := List.eq_nil_of_length_eq_zero hk
    have w3 : IntKind.i64.wrap 21 = 21 := wrap_i64 (by omega) (by omega)
    refine ⟨(21 : Int).tmod n, Int.tmod_nonneg _ (by omega), Int.tmod_lt_of_pos _ (by omega), ?_⟩
    simp -implicitDefEqProofs [X_laws_lwAt, retK_eq, hn, hn0, w3]
  obtain ⟨f1, f2, f3, f4⟩ := src_facts hl (a := 3) (by omega) hk
  obtain ⟨g1, g2, _, _⟩ := src_facts hl (a := 4) (by omega) hk
  have b1 := gt_byte hl ((3 : Int).tmod l.length).toNat
  have b2 := gt_byte hl ((4 : Int).tmod l.length).toNat
  have hk1 : ¬ (l.length : Int) = 0 := by omega
  have hl0 : ¬ l = [] := fun e => hk (by rw [e]; rfl)
  have hx1 := ixa_frS eU8 (sz := 1) rfl .i64 f1 f2
  have hx2 := ixa_frS eU8 (sz := 1) rfl .i64 g1 g2
  have w0 : IntKind.i64.wrap 4 = 4 := wrap_i64 (by omega) (by omega)
  have v1 : IntKind.i64.wrap (gt l ((3 : Int).tmod l.length).toNat) = gt l ((3 : Int).tmod l.length).toNat := wrap_i64 (by omega) (by omega)
  have v2 : IntKind.i64.wrap (gt l ((4 : Int).tmod l.length).toNat) = gt l ((4 : Int).tmod l.length).toNat := wrap_i64 (by omega) (by omega)
  have v3 : IntKind.i64.wrap ((3 : Int).tdiv l.length) = (3 : Int).tdiv l.length := wrap_i64 (by omega) (by omega)
  have v4 : IntKind.i64.wrap ((3 : Int).tdiv l.length * 3) = (3 : Int).tdiv l.length * 3 := wrap_i64 (by omega) (by omega)
  have v5 : IntKind.i64.wrap (gt l ((3 : Int).tmod l.length).toNat + (3 : Int).tdiv l.length * 3) = gt l ((3 : Int).tmod l.length).toNat + (3 : Int).tdiv l.length * 3 := wrap_i64 (by omega) (by omega)
  have v6 : IntKind.i64.wrap ((gt l ((3 : Int).tmod l.length).toNat + (3 : Int).tdiv l.length * 3) * 251) = (gt l ((3 : Int).tmod l.length).toNat + (3 : Int).tdiv l.length * 3) * 251 := wrap_i64 (by omega) (by omega)
  have v7 : IntKind.i64.wrap ((gt l ((3 : Int).tmod l.length).toNat + (3 : Int).tdiv l.length * 3) * 251 + gt l ((4 : Int).tmod l.length).toNat) = (gt l ((3 : Int).tmod l.length).toNat + (3 : Int).tdiv l.length * 3) * 251 + gt l ((4 : Int).tmod l.length).toNat := wrap_i64 (by omega) (by omega)
  by_cases h2 : 200 < n
  · refine ⟨((gt l ((3 : Int).tmod l.length).toNat + (3 : Int).tdiv l.length * 3) * 251 + gt l ((4 : Int).tmod l.length).toNat).tmod n, Int.tmod_nonneg _ (by omega), Int.tmod_lt_of_pos _ (by omega), ?_⟩
    simp (maxSteps := 400000) -implicitDefEqProofs [X_laws_lwAt, retK_eq, hn, hn0, hk, hk1, hl0, hx1, hx2, w0, v1, v2, v3, v4, v5, v6, v7, h2]
  · refine ⟨(gt l ((3 : Int).tmod l.length).toNat + (3 : Int).tdiv l.length * 3).tmod n, Int.tmod_nonneg _ (by omega), Int.tmod_lt_of_pos _ (by omega), ?_⟩
    simp (maxSteps := 400000) -implicitDefEqProofs [X_laws_lwAt, retK_eq, hn, hn0, hk, hk1, hl0, hx1, hx2, w0, v1, v2, v3, v4, v5, v6, v7, h2]
theorem cvBS_frS (m : Mem) (l : List Int) : cvBS m (frS eU8 l) = some (.string (bstr l)) := by
  show (if (cellsE eU8 l).toArray.size = l.length then ob (bytesOf (cellsE eU8 l)) fun x => some (Value.string ⟨x.toArray⟩) else none) = _
  have hb : bytesOf (cellsE eU8 l) = some (l.map fun n => UInt8.ofNat n.toNat) := by
    induction l with
    | nil => rfl
    | cons x l ih =>
      rw [cellsE_cons]
      show bytesOf (.int .u8 x :: cellsE eU8 l) = _
      unfold bytesOf
      rw [ih]
      rfl
  rw [if_pos (by simp), hb]
  rfl
theorem s_lwSame (a : List Int) : X_laws_lwSame [frS eU8 a, frS eU8 a] [] = some (.bool true, []) := by
  have h := cvBS_frS [] a
  simp -implicitDefEqProofs [X_laws_lwSame, retK_eq, h]
theorem z_DrawFeedMany (l : List Int) (hl : bytesOk l) : ∃ (w : WayT) (L : LnT) (d : List Int), lnD L ∧ bOk d ∧ d.length ≤ 300 ∧ ∀ m, icall X_spec_DrawFeedMany [frS eU8 l] m = some (.tuple #[wayV w, lnV L, frS eU8 d], m) := by
  obtain ⟨w, L, b, o1, b0, b1, d1⟩ := q_l11Bent l hl
  have hq := qcall_eq X_spec_l11Bent
  generalize qX X_spec_l11Bent = Q at *
  have hs := s_l1Source l
  have ch := s_l1Chance l b 30 hl (by omega) (by omega)
  by_cases c0 : nx l b 30 = 0
  · obtain ⟨Z, z1, z2, z3⟩ := mk_zeros 201 (by omega)
    have f := fun k' m => fzO_own eU8 k' m Z
    rw [z1] at f
    rw [c0] at ch
    have z3 : ∀ m, mkX m 1 1 [.int .u8 0] (.int .i64 201) (.int .i64 201) = some (slO m.length 201, m ++ [ownB eU8 Z]) := z3
    refine ⟨w, L, Z, o1, z2, by omega, fun m => icall_all ?_ m⟩
    simp (maxSteps := 2000000) -implicitDefEqProofs [-mkX_nat, X_spec_DrawFeedMany, hs, hq, retK_eq, d1, ch, z3, f]
  · obtain ⟨bs, c, e1, e2, e3, e4, e5⟩ := s_l11Typed l hl 14 (b + 1) (by omega) (by omega) (by omega) (by omega)
    have hc' : decide (nx l b 30 = 0) = false := by simp [c0]
    rw [hc'] at ch
    have f := fun k' m => fzO_own eU8 k' m bs
    refine ⟨w, L, bs, o1, e2, e1, fun m => icall_all ?_ m⟩
    simp (maxSteps := 2000000) -implicitDefEqProofs [X_spec_DrawFeedMany, hs, hq, retK_eq, d1, ch, e5, f]
theorem s_pick12 (l : List Int) (a x0 x1 x2 x3 x4 x5 x6 x7 x8 x9 xa xb : Int) (hl : bytesOk l) (ha : atOk a) : X_spec_l1Pick [pt 0, .slice (some ⟨1, 0, none⟩) 12 12] [srcM l a, ⟨[.int .i64 x0, .int .i64 x1, .int .i64 x2, .int .i64 x3, .int .i64 x4, .int .i64 x5, .int .i64 x6, .int .i64 x7, .int .i64 x8, .int .i64 x9, .int .i64 xa, .int .i64 xb], 1, true, true⟩] = some (.int .i64 (pk l a [x0, x1, x2, x3, x4, x5, x6, x7, x8, x9, xa, xb]), [srcM l (a + 1), ⟨[.int .i64 x0, .int .i64 x1, .int .i64 x2, .int .i64 x3, .int .i64 x4, .int .i64 x5, .int .i64 x6, .int .i64 x7, .int .i64 x8, .int .i64 x9, .int .i64 xa, .int .i64 xb], 1, true, true⟩]) := s_pickG l a [x0, x1, x2, x3, x4, x5, x6, x7, x8, x9, xa, xb] hl ha (by simp)
theorem z_DrawFeedLine (l : List Int) (hl : bytesOk l) : ∃ (w : WayT) (L : LnT) (y : Int), lnD L ∧ 0 ≤ y ∧ y < 256 ∧ ∀ m, icall X_spec_DrawFeedLine [frS eU8 l] m = some (.tuple #[wayV w, lnV L, .int .u8 y], m) := by
  obtain ⟨w, L, b, o1, b0, b1, d1⟩ := q_l11Bent l hl
  have hq := qcall_eq X_spec_l11Bent
  generalize qX X_spec_l11Bent = Q at *
  have hs := s_l1Source l
  have k := s_pick12 l b 97 127 21 23 4 3 22 13 10 1 195 164 hl ⟨by omega, by omega⟩
  have hm := pk_mem hl (a := b) ⟨by omega, by omega⟩ (xs := [97, 127, 21, 23, 4, 3, 22, 13, 10, 1, 195, 164]) (by simp)
  have hbd : 0 ≤ pk l b [97, 127, 21, 23, 4, 3, 22, 13, 10, 1, 195, 164] ∧ pk l b [97, 127, 21, 23, 4, 3, 22, 13, 10, 1, 195, 164] < 256 := by
    simp only [List.mem_cons, List.not_mem_nil, or_false] at hm
    omega
  generalize pk l b [97, 127, 21, 23, 4, 3, 22, 13, 10, 1, 195, 164] = y at *
  have hw : IntKind.u8.wrap y = y := wrap_u8' hbd.1 hbd.2
  refine ⟨w, L, y, o1, hbd.1, hbd.2, fun m => icall_all ?_ m⟩
  simp (maxSteps := 2000000) -implicitDefEqProofs [X_spec_DrawFeedLine, hs, hq, retK_eq, d1, k, hw]
end Go.Ab
namespace Go.Ab
set_option maxHeartbeats 8000000
theorem l_EqB (x : List Int) (hx : x.length < 1000000000) (r : List Int) : ∀ (p : List Int) (q : Nat), x = p ++ r → r.length < q → L_slices_Equal_byte_byte 0 q 0 [frS eU8 x, frS eU8 x, .int .i64 x.length, .int .i64 p.length] [] = some (.bool true, []) := by
  induction r with
  | nil =>
    intro p q hp hq
    obtain ⟨q, rfl⟩ : ∃ n, q = n + 1 := ⟨q - 1, by omega⟩
    rw [List.append_nil] at hp
    subst hp
    simp -implicitDefEqProofs [L_slices_Equal_byte_byte, retK_eq]
  | cons y r ih =>
    intro p q hp hq
    obtain ⟨q, rfl⟩ : ∃ n, q = n + 1 := ⟨q - 1, by omega⟩
    have h := ih (p ++ [y]) q (by simp [hp]) (by simp at hq; omega)
    have e2 : ((p ++ [y]).length : Int) = (p.length : Int) + 1 := by simp
    rw [e2] at h
    have hx1 := ixa_mid eU8 (sz := 1) rfl .i64 p y r
    rw [← hp] at hx1
    have hw := wrap_next (n := p.length) (by rw [hp] at hx; simp at hx; omega)
    have hlt : (p.length : Int) < x.length := by rw [hp]; simp
    simp -implicitDefEqProofs [L_slices_Equal_byte_byte, retK_eq, cutK_eq, hx1, hw, hlt, h]
theorem s_EqB (x : List Int) (hx : x.length < 1000000000) : X_slices_Equal_byte_byte [frS eU8 x, frS eU8 x] [] = some (.bool true, []) := by
  have h := l_EqB x hx x [] QQ rfl (by unfold QQ; omega)
  simp at h
  simp -implicitDefEqProofs [X_slices_Equal_byte_byte, cutK_eq, retK_eq, h]
theorem l_EqBS (x : List (List Int)) (hx : x.length < 1000000000) (hs : ∀ y ∈ x, y.length < 1000000000) (r : List (List Int)) : ∀ (p : List (List Int)) (q : Nat), x = p ++ r → r.length < q → L_slices_EqualFunc_byte_byte_byte_byte 0 q 0 [frS eBS x, .func (.func 68) #[] #[], frS eBS x, .int .i64 x.length, .int .i64 p.length] [] = some (.bool true, []) := by
  induction r with
  | nil =>
    intro p q hp hq
    obtain ⟨q, rfl⟩ : ∃ n, q = n + 1 := ⟨q - 1, by omega⟩
    rw [List.append_nil] at hp
    subst hp
    simp -implicitDefEqProofs [L_slices_EqualFunc_byte_byte_byte_byte, retK_eq]
  | cons y r ih =>
    intro p q hp hq
    obtain ⟨q, rfl⟩ : ∃ n, q = n + 1 := ⟨q - 1, by omega⟩
    have h := ih (p ++ [y]) q (by simp [hp]) (by simp at hq; omega)
    have e2 : ((p ++ [y]).length : Int) = (p.length : Int) + 1 := by simp
    rw [e2] at h
    have hx1 := ixa_mid eBS (sz := 1) rfl .i64 p y r
    rw [← hp] at hx1
    have hw := wrap_next (n := p.length) (by rw [hp] at hx; simp at hx; omega)
    have hlt : (p.length : Int) < x.length := by rw [hp]; simp
    have c1 := s_EqB y (hs y (by rw [hp]; simp))
    simp -implicitDefEqProofs [L_slices_EqualFunc_byte_byte_byte_byte, cf_slices_EqualFunc_byte_byte_byte_byte, retK_eq, cutK_eq, hx1, hw, hlt, c1, h]
theorem s_EqBS (x : List (List Int)) (hx : x.length < 1000000000) (hs : ∀ y ∈ x, y.length < 1000000000) : X_slices_EqualFunc_byte_byte_byte_byte [frS eBS x, frS eBS x, .func (.func 68) #[] #[]] [] = some (.bool true, []) := by
  have h := l_EqBS x hx hs x [] QQ rfl (by unfold QQ; omega)
  simp at h
  simp -implicitDefEqProofs [X_slices_EqualFunc_byte_byte_byte_byte, cutK_eq, retK_eq, h]
theorem s_SameLines (l : LnT) (hl : l.small) : X_impl_SameLines [lnV l, lnV l] [] = some (.bool true, []) := by
  have c1 := s_EqBS l.rows hl.1 hl.2.1
  have c2 := s_EqB l.cur hl.2.2
  simp (maxSteps := 4000000) -implicitDefEqProofs [X_impl_SameLines, retK_eq, c1, c2]
theorem s_QueueSize (l : LnT) (hl : l.small) (h0 : lineF l = 0) (h40 : l.rows.length ≤ 40) : X_impl_QueueSize [lnV l] [] = some (.agg #[.int .i64 0, .int .i64 (l.size : Nat)], []) := by
  have c1 := s_impl_LineFault l hl
  rw [h0] at c1
  have c2 := s_impl_Line_size l hl h40
  simp (maxSteps := 4000000) -implicitDefEqProofs [X_impl_QueueSize, retK_eq, c1, c2]
end Go.Ab
namespace Go.Ab
set_option maxHeartbeats 4000000
def elN (x : List Int) : El Int := ⟨[], if x = [] then .no (nilW) else .ow [] x [] 0 x.length, []⟩
theorem elN_ok (x : List Int) : (elN x).ok eU8 := by
  refine ⟨rfl, rfl, ?_⟩
  unfold elN
  split
  · exact .inl rfl
  · exact fun _ => rfl
theorem ok_N (l : List (List Int)) : ∀ e ∈ l.map elN, e.ok eU8 := by
  intro e he
  obtain ⟨x, _, rfl⟩ := List.mem_map.1 he
  exact elN_ok x
theorem famX_Nlen (k : Nat) (l : List (List Int)) : (famX k (l.map elN)).length = l.length := by
  induction l generalizing k with
  | nil => rfl
  | cons x r ih => simp [famX, elN, ih]
theorem famN_N (l : List (List Int)) : famN (l.map elN) ≤ l.length := by
  induction l with
  | nil => exact Nat.le_refl _
  | cons x r ih =>
    have : (elN x).p.n ≤ 1 := by unfold elN; split <;> simp [Pc.n]
    simp only [List.map_cons, famN, List.length_cons]
    omega
abbrev zLn : Blk := blk [nilW, nilW, .bool false, .int .i64 0]
theorem nd3 {b k y j : Nat} (hb : 2 ≤ b) (h1 : b + k ≤ y) (h2 : b + k ≤ j) (h3 : y ≠ j) : (0 :: 1 :: j :: (List.range' b k ++ [y])).Nodup := by
  have := nod_row1 (b := b) (k := k) h1 h2 h3
  refine List.nodup_cons.2 ⟨fun h => ?_, List.nodup_cons.2 ⟨fun h => ?_, this⟩⟩
  · simp at h; omega
  · simp at h; omega
theorem nd3' {b k j : Nat} (hb : 2 ≤ b) (h2 : b + k ≤ j) : (0 :: 1 :: j :: (List.range' b k ++ [])).Nodup := by
  have := nod_row0 (b := b) (k := k) h2
  refine List.nodup_cons.2 ⟨fun h => ?_, List.nodup_cons.2 ⟨fun h => ?_, this⟩⟩
  · simp at h; omega
  · simp at h; omega
theorem l_impl_clone_step (rows0 : List (List Int)) (cur : List Int) (t : Bool) (n : Int) (x : List Int) (r p : List (List Int)) (q : Nat) (hl : (p ++ x :: r).length < 1000000) (hx0 : x.length < 1000000000) : L_impl_Line_clone 0 (q + 1) 0 [ptr 0, ptr 1, slO 2 p.length, frS eBS (p ++ x :: r), .int .i64 (p ++ x :: r).length, .int .i64 p.length] (blk [frS eBS rows0, frS eU8 cur, .bool t, .int .i64 n] :: zLn :: famB 3 1 (p.map elN) :: famM eU8 (p.map elN)) = L_impl_Line_clone 0 q 0 [ptr 0, ptr 1, slO 2 (p.length + 1), frS eBS (p ++ x :: r), .int .i64 (p ++ x :: r).length, .int .i64 (p.length + 1)] (blk [frS eBS rows0, frS eU8 cur, .bool t, .int .i64 n] :: zLn :: famB 3 1 ((p ++ [x]).map elN) :: famM eU8 ((p ++ [x]).map elN)) := by
  have hx := ixa_mid eBS (sz := 1) rfl .i64 p x r
  have hw := wrap_next (n := p.length) (by simp at hl; omega)
  have e5 : (p.length : Int) < ((p ++ x :: r).length : Int) := by simp
  have hF : (famM eU8 (p.map elN)).length = famN (p.map elN) := famM_len eU8 _
  have hC : (famX 3 (p.map elN)).length = p.length := famX_Nlen 3 p
  have hN := famN_N p
  have hp2 : p.length < 1000000 := by simp at hl; omega
  have ho' : p.length + 1 < 1000000000 := by omega
  have p1 := fun m n o c n2 o2 len c2 => apL_sl (m := m) (sz := 1) (bytes := 24) (n := n) (o := o) (len := len) (c := c) (n2 := n2) (o2 := o2) (len2 := 1) (c2 := c2)
  have e4 : (p ++ [x]).map elN = p.map elN ++ [elN x] := by simp
  rw [e4]
  simp only [famB]
  generalize hR : L_impl_Line_clone 0 q 0 _ _ = RES
  generalize hFF : famM eU8 (p.map elN) = F at *
  generalize hCC : famX 3 (p.map elN) = C at *
  generalize hNN : famN (p.map elN) = N at *
  generalize hLL : ((p ++ x :: r).length : Int) = LL at *
  have hIX : famI (List.range' 3 N) (p.map elN) = C := by rw [← hNN, famI_range, hCC]
  have hrd := fun o => rdB_all (C := C) (s := 1) (o := o) hC
  by_cases hd : x = []
  · subst hd
    have hel : elN [] = ⟨[], .no (nilW), []⟩ := rfl
    have hrm : rdM (some ⟨[nilW], 1, true, true⟩) 0 1 = some [nilW] := rfl
    have hfin : ∀ pv, cutK 0 (blk [frS eBS rows0, frS eU8 cur, .bool t, .int .i64 n] :: zLn :: ⟨C, 1, true, false⟩ :: (F ++ [⟨[nilW], 1, true, true⟩, ⟨C ++ [nilW], 1, true, true⟩])) pv [ptr 0, ptr 1, slO (N + 3 + 1) (p.length + 1), frS eBS (p ++ [] :: r), .int .i64 LL, .int .i64 (p.length + 1)] (L_impl_Line_clone 0 q 0) = RES := by
      intro pv
      have H : Fam eU8 (blk [frS eBS rows0, frS eU8 cur, .bool t, .int .i64 n] :: zLn :: ⟨C, 1, true, false⟩ :: (F ++ [⟨[nilW], 1, true, true⟩, ⟨C ++ [nilW], 1, true, true⟩])) (N + 3 + 1) 1 (List.range' 3 N ++ []) (p.map elN ++ [elN []]) := by
        refine Fam.snoc eU8 (j := 0) (m := []) (by rw [hNN]; simp) (ok_N p) (elN_ok []) (fun i n b h1 h2 => in_row [_, _, _] F _ rfl h1 (by rwa [hFF] at h2)) (fun i n b h1 h2 => by simp at h1) rfl (nod_row0 (by omega)) (cs := C ++ [nilW]) ?_ (at_row [_, _, _] F _ (j := 1) (by simp; omega) rfl)
        rw [hIX, hel]
        rfl
      obtain ⟨c1, c2⟩ := H.can3a eU8 (p := 0) (r := 1) rfl rfl rfl rfl (nd3' (by omega) (by omega)) (by simp; omega)
      rw [cut_of c1 c2 (vs0 := [ptr 0, ptr 1, slO 2 (p.length + 1), frS eBS (p ++ [] :: r), .int .i64 LL, .int .i64 (p.length + 1)]) (by simp) (by simp)]
      rw [← hR]
      simp [famB]
    have cl0 : ∀ m, cloneV0 1 m (frS eU8 []) = some (nilW, m) := fun m => rfl
    simp (maxSteps := 400000) -implicitDefEqProofs [L_impl_Line_clone, hx, hw, p1, ho', hF, hC, hrd, hrm, e5, cl0, hfin]
  · have hel : elN x = ⟨[], .ow [] x [] 0 x.length, []⟩ := by unfold elN; rw [if_neg hd]
    have hrm : ∀ k : Nat, rdM (some ⟨[slO k x.length], 1, true, true⟩) 0 1 = some [slO k x.length] := fun k => rfl
    have cl := fun m => cloneV0_frS eU8 eU8_hard (sz := 1) rfl m x hd hx0
    have hfin : ∀ pv, cutK 0 (blk [frS eBS rows0, frS eU8 cur, .bool t, .int .i64 n] :: zLn :: ⟨C, 1, true, false⟩ :: (F ++ [ownB eU8 x, ⟨[slO (N + 2 + 1) x.length], 1, true, true⟩, ⟨C ++ [slO (N + 2 + 1) x.length], 1, true, true⟩])) pv [ptr 0, ptr 1, slO (N + 4 + 1) (p.length + 1), frS eBS (p ++ x :: r), .int .i64 LL, .int .i64 (p.length + 1)] (L_impl_Line_clone 0 q 0) = RES := by
      intro pv
      have H : Fam eU8 (blk [frS eBS rows0, frS eU8 cur, .bool t, .int .i64 n] :: zLn :: ⟨C, 1, true, false⟩ :: (F ++ [ownB eU8 x, ⟨[slO (N + 2 + 1) x.length], 1, true, true⟩, ⟨C ++ [slO (N + 2 + 1) x.length], 1, true, true⟩])) (N + 4 + 1) 1 (List.range' 3 N ++ [N + 2 + 1]) (p.map elN ++ [elN x]) := by
        refine Fam.snoc eU8 (j := 0) (m := []) (by rw [hNN]; simp) (ok_N p) (elN_ok x) (fun i n b h1 h2 => in_row [_, _, _] F _ rfl h1 (by rwa [hFF] at h2)) (fun i n b h1 h2 => ?_) (by rw [hel]; rfl) (nod_row1 (by omega) (by omega) (by omega)) (cs := C ++ [slO (N + 2 + 1) x.length]) ?_ (at_row [_, _, _] F _ (j := 2) (by simp; omega) rfl)
        · have hi := (List.getElem?_eq_some_iff.1 h1).1
          have : i = 0 := by simpa using hi
          subst this
          simp at h1
          subst h1
          rw [hel] at h2
          have h2 : some (ownB eU8 ([] ++ (x ++ []))) = some b := h2
          rw [← h2, List.nil_append, List.append_nil]
          exact at_row [_, _, _] F _ (j := 0) (by simp; omega) rfl
        · rw [hIX, hel]
          rfl
      obtain ⟨c1, c2⟩ := H.can3a eU8 (p := 0) (r := 1) rfl rfl rfl rfl (nd3 (by omega) (by omega) (by omega) (by omega)) (by simp; omega)
      rw [cut_of c1 c2 (vs0 := [ptr 0, ptr 1, slO 2 (p.length + 1), frS eBS (p ++ x :: r), .int .i64 LL, .int .i64 (p.length + 1)]) (by simp) (by simp)]
      rw [← hR]
      simp [famB]
    simp (maxSteps := 400000) -implicitDefEqProofs [L_impl_Line_clone, hx, hw, p1, ho', hF, hC, hrd, hrm, e5, cl, hfin]
theorem l_impl_clone_rows (rows0 : List (List Int)) (cur : List Int) (t : Bool) (n : Int) (r : List (List Int)) : ∀ (p : List (List Int)) (q : Nat), (p ++ r).length < 1000000 → (∀ x ∈ r, x.length < 1000000000) → L_impl_Line_clone 0 (q + r.length) 0 [ptr 0, ptr 1, slO 2 p.length, frS eBS (p ++ r), .int .i64 (p ++ r).length, .int .i64 p.length] (blk [frS eBS rows0, frS eU8 cur, .bool t, .int .i64 n] :: zLn :: famB 3 1 (p.map elN) :: famM eU8 (p.map elN)) = L_impl_Line_clone 0 q 0 [ptr 0, ptr 1, slO 2 (p ++ r).length, frS eBS (p ++ r), .int .i64 (p ++ r).length, .int .i64 (p ++ r).length] (blk [frS eBS rows0, frS eU8 cur, .bool t, .int .i64 n] :: zLn :: famB 3 1 ((p ++ r).map elN) :: famM eU8 ((p ++ r).map elN)) := by
  induction r with
  | nil => intro p q hl hb; simp
  | cons x r ih =>
    intro p q hl hb
    have h := ih (p ++ [x]) q (by simpa using hl) (fun y hy => hb y (by simp [hy]))
    have e1 : p ++ [x] ++ r = p ++ x :: r := by simp
    have e2 : (p ++ [x]).length = p.length + 1 := by simp
    rw [e1, e2] at h
    rw [List.length_cons, show q + (r.length + 1) = q + r.length + 1 by omega, l_impl_clone_step rows0 cur t n x r p (q + r.length) hl (hb x (by simp))]
    exact_mod_cast h
end Go.Ab
