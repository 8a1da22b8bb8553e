/- What the functions of the program answer, for all arguments that the theorems name as conditions. -/
import Derived.Test.YtciokegejemdcaaDoorS15Mb
import Derived.Test.YtciokegejemdcaaDoorS15Ma
set_option linter.unusedVariables false
set_option linter.unusedSimpArgs false
namespace Go.Ab
set_option maxHeartbeats 8000000
set_option maxRecDepth 100000
def at1 (n : Int) : List Int := if andI .i64 n 8 = 0 then [] else [59, 49]
def at2 (n : Int) : List Int := if andI .i64 n 16 = 0 then [] else [59, 55]
def atL (n : Int) : List Int := 27 :: (91 :: 48 :: 59 :: dgL (30 + n % 8)) ++ (at1 n ++ (at2 n ++ [109]))
theorem atL_len (n : Int) : (atL n).length ≤ 20 := by
  have := dgL_len (30 + n % 8)
  unfold atL at1 at2
  split <;> split <;> simp <;> omega
theorem d30_ok (n : Int) : byOk (91 :: 48 :: 59 :: dgL (30 + n % 8)) := by
  have a := dgL_ok (n := 30 + n % 8) (by omega) (by omega)
  intro x hx
  simp only [List.mem_cons] at hx
  rcases hx with rfl | rfl | rfl | hx
  · omega
  · omega
  · omega
  · exact a x hx
theorem byO2 (a b : Int) (h : (0 ≤ a ∧ a < 256) ∧ 0 ≤ b ∧ b < 256) : byOk [a, b] := fun x hx => by simp at hx; omega
theorem byO1 (a : Int) (h : 0 ≤ a ∧ a < 256) : byOk [a] := fun x hx => by simp at hx; omega
theorem t_attr1 (a : List Int) (n : Int) (h0 : 0 ≤ n) (h1 : n ≤ 31) (ha : a.length < 500000) : X_impl_put_attr [ptr 0, .int .i64 n] [blk [slO 1 a.length], ownB eB8 a] = some (.tuple #[], [blk [slO 2 (a ++ atL n).length], dB a, ownB eB8 (a ++ atL n)]) := by
  have hm : n.tmod 8 = n % 8 := Int.tmod_eq_emod_of_nonneg h0
  have d1 := s_digI (30 + n % 8) (by omega)
  have w0 : IntKind.i64.wrap (n % 8) = n % 8 := wrap_i64 (by omega) (by omega)
  have w1 : IntKind.i64.wrap (30 + n % 8) = 30 + n % 8 := wrap_i64 (by omega) (by omega)
  have l1 := dgL_len (30 + n % 8)
  have hok := d30_ok n
  have hs : (⟨#[91, 48, 59]⟩ : ByteArray) ++ bstr (dgL (30 + n % 8)) = bstr (91 :: 48 :: 59 :: dgL (30 + n % 8)) := bstr_app [91, 48, 59] _
  have z1 : (⟨#[91, 48, 59]⟩ : ByteArray).size = 3 := rfl
  have z2 : (bstr (dgL (30 + n % 8))).size = (dgL (30 + n % 8)).length := bstr_len _
  have g1 : 3 + (dgL (30 + n % 8)).length ≤ 4611686018427387904 := by omega
  have k1 : (⟨#[59, 49]⟩ : ByteArray) = bstr [59, 49] := rfl
  have k2 : (⟨#[59, 55]⟩ : ByteArray) = bstr [59, 55] := rfl
  have k3 : (⟨#[109]⟩ : ByteArray) = bstr [109] := rfl
  unfold atL
  generalize dgL (30 + n % 8) = D at *
  have e1 := t_esc1 a (91 :: 48 :: 59 :: D) hok (by simp; omega)
  have hl : (a ++ 27 :: (91 :: 48 :: 59 :: D)).length < 600000 := by simp; omega
  have hf : ∀ X, a ++ (27 :: (91 :: 48 :: 59 :: D) ++ X) = a ++ 27 :: (91 :: 48 :: 59 :: D) ++ X := fun X => by simp
  rw [hf]
  generalize a ++ 27 :: (91 :: 48 :: 59 :: D) = A1 at *
  unfold at1 at2
  by_cases c1 : andI .i64 n 8 = 0
  · by_cases c2 : andI .i64 n 16 = 0
    · have e4 := t_text1 A1 [109] (byO1 _ (by omega)) (by simp; omega)
      rw [if_pos c1, if_pos c2, List.nil_append, List.nil_append]
      generalize A1 ++ [109] = A4 at *
      simp -implicitDefEqProofs [X_impl_put_attr, retK_eq, hm, d1, w0, w1, hs, z1, z2, g1, k1, k2, k3, c1, c2, e1, e4]
    · have e3 := t_text1 A1 [59, 55] (byO2 _ _ (by omega)) (by simp; omega)
      have hl3 : (A1 ++ [59, 55]).length < 700000 := by simp; omega
      rw [if_pos c1, if_neg c2, List.nil_append, ← List.append_assoc]
      generalize A1 ++ [59, 55] = A3 at *
      have e4 := t_text1 A3 [109] (byO1 _ (by omega)) (by simp; omega)
      generalize A3 ++ [109] = A4 at *
      simp -implicitDefEqProofs [X_impl_put_attr, retK_eq, hm, d1, w0, w1, hs, z1, z2, g1, k1, k2, k3, c1, c2, e1, e3, e4]
  · have e2 := t_text1 A1 [59, 49] (byO2 _ _ (by omega)) (by simp; omega)
    have hl2 : (A1 ++ [59, 49]).length < 700000 := by simp; omega
    by_cases c2 : andI .i64 n 16 = 0
    · rw [if_neg c1, if_pos c2, List.nil_append, ← List.append_assoc]
      generalize A1 ++ [59, 49] = A2 at *
      have e4 := t_text1 A2 [109] (byO1 _ (by omega)) (by simp; omega)
      generalize A2 ++ [109] = A4 at *
      simp -implicitDefEqProofs [X_impl_put_attr, retK_eq, hm, d1, w0, w1, hs, z1, z2, g1, k1, k2, k3, c1, c2, e1, e2, e4]
    · rw [if_neg c1, if_neg c2, ← List.append_assoc, ← List.append_assoc]
      generalize A1 ++ [59, 49] = A2 at *
      have e3 := t_text1 A2 [59, 55] (byO2 _ _ (by omega)) (by simp; omega)
      have hl3 : (A2 ++ [59, 55]).length < 800000 := by simp; omega
      generalize A2 ++ [59, 55] = A3 at *
      have e4 := t_text1 A3 [109] (byO1 _ (by omega)) (by simp; omega)
      generalize A3 ++ [109] = A4 at *
      simp -implicitDefEqProofs [X_impl_put_attr, retK_eq, hm, d1, w0, w1, hs, z1, z2, g1, k1, k2, k3, c1, c2, e1, e2, e3, e4]
theorem t_char1 (a : List Int) (c : Int) (h0 : 0 ≤ c) (h1 : c ≤ 65535) (ha : a.length < 500000) : X_impl_put_char [ptr 0, .int .i64 c] [blk [slO 1 a.length], ownB eB8 a] = some (.tuple #[], [blk [slO 2 (a ++ encB c).length], dB a, ownB eB8 (a ++ encB c)]) := by
  have he := encB_len c
  have c1 := s_impl_encode c h0 h1
  have p1 := fun m n o cc k o2 c2 => apL_sl (m := m) (sz := 1) (bytes := 1) (n := n) (o := o) (len := a.length) (c := cc) (n2 := k) (o2 := o2) (len2 := (encB c).length) (c2 := c2) (by omega) (by omega)
  have p2 := fun m n cs k => apB_own (E := eB8) (m := m) (l := a) (n := n) (sz := 1) (cs := cs) (k := k) rfl
  have p3 : (⟨cellsE eB8 a ++ cellsE eB8 (encB c), 1, true, true⟩ : Blk) = ownB eB8 (a ++ encB c) := by rw [← cellsE_append]; rfl
  generalize encB c = E at *
  simp -implicitDefEqProofs [X_impl_put_char, retK_eq, c1, p1, p2, p3]
end Go.Ab
namespace Go.Ab
set_option maxHeartbeats 8000000
set_option maxRecDepth 100000
def bodyL : Option Int → List CellT → List Int
  | _, [] => []
  | pa, x :: r => (if pa = some x.a then [] else atL x.a) ++ (encB x.c ++ bodyL (some x.a) r)
abbrev scB (s : ScrT) : Blk := blk (scrL s (frS eC s.g.cs) (frS eC s.g.bk) (frS eB s.tabs) (frS eI6 s.sets))
theorem s_at (s : ScrT) (x y : Int) (h : IntKind.i64.wrap (x * s.g.w) = x * s.g.w) (h2 : IntKind.i64.wrap (x * s.g.w + y) = x * s.g.w + y) (h0 : 0 ≤ x * s.g.w + y) (h1 : x * s.g.w + y < s.g.cs.length) : X_impl_Grid_at [ptr 0, .int .i64 x, .int .i64 y] [scB s] = some (roP (eC.f (gt s.g.cs (x * s.g.w + y).toNat)), [scB s]) := by
  have hi := ixa_frS eC (sz := 2) rfl .i64 h0 h1
  simp (maxSteps := 1000000) -implicitDefEqProofs [X_impl_Grid_at, retK_eq, h, h2, hi]
theorem row_gt {g : GridT} {y : Int} {p r : List CellT} {c : CellT} (h : rowL g y = p ++ c :: r) : gt g.cs ((y * g.w).toNat + p.length) = c := by
  have e : (rowL g y)[p.length]? = some c := by rw [h]; simp
  unfold rowL at e
  rw [List.getElem?_take] at e
  split at e
  · rw [List.getElem?_drop] at e
    unfold gt
    rw [List.getD_eq_getElem?_getD, e]
    rfl
  · cases e
def lastA (p : List CellT) : Option Int := p.getLast?.map fun x => x.a
theorem lastA_app (p : List CellT) (c : CellT) : lastA (p ++ [c]) = some c.a := by simp [lastA]
theorem row_len {g : GridT} {y : Int} (hf : faultG g = 0) (h0 : 0 ≤ y) (h1 : y ≤ g.r - 1) : ((rowL g y).length : Int) = g.w := by
  obtain ⟨w1, w2, w3, f1, f2, f3, f4, f5, _⟩ := row_facts hf h0 h1
  have e : (y + 1) * g.w = y * g.w + g.w := by rw [Int.add_mul, Int.one_mul]
  unfold rowL
  rw [List.length_take, List.length_drop]
  omega
theorem row_ok {g : GridT} {y : Int} (hf : faultG g = 0) : ∀ x ∈ rowL g y, 0 ≤ x.a ∧ x.a ≤ 31 := by
  intro x hx
  have hx' : x ∈ g.cs := List.mem_of_mem_drop (List.mem_of_mem_take hx)
  have hl : allC g.cs = true := by
    unfold faultG at hf
    split at hf
    · split at hf
      · split at hf
        · rename_i h3
          simp at h3
          exact h3.1
        · cases hf
      · cases hf
    · cases hf
  have := List.all_eq_true.mp hl x hx'
  simp [okC, atB, inB] at this
  omega
theorem l_row (s : ScrT) (y : Int) (hf : faultG s.g = 0) (h0 : 0 ≤ y) (h1 : y ≤ s.g.r - 1) (r : List CellT) : ∀ (p : List CellT) (a : List Int) (q : Nat), rowL s.g y = p ++ r → r.length < q → a.length + 30 * r.length < 400000 → L_impl_put_row 2 q 0 [ptr 0, ptr 1, .int .i64 y, .int .i64 s.g.w, .int .i64 p.length] [blk [slO 2 a.length], scB s, ownB eB8 a] = some (.tuple #[], [blk [slO 2 (a ++ bodyL (lastA p) r).length], scB s, ownB eB8 (a ++ bodyL (lastA p) r)]) := by
  have hrl := row_len hf h0 h1
  have hra := row_ok (y := y) hf
  obtain ⟨w1, w2, w3, f1, f2, f3, f4, f5, f6⟩ := row_facts hf h0 h1
  have ew : (y + 1) * s.g.w = y * s.g.w + s.g.w := by rw [Int.add_mul, Int.one_mul]
  induction r with
  | nil =>
    intro p a q hp hq ha
    obtain ⟨q, rfl⟩ : ∃ n, q = n + 1 := ⟨q - 1, by omega⟩
    have hn : ¬ (p.length : Int) < s.g.w := by
      rw [hp] at hrl
      simp at hrl
      omega
    rw [bodyL, List.append_nil]
    simp (maxSteps := 1000000) -implicitDefEqProofs [L_impl_put_row, retK_eq, hn]
  | cons c r ih =>
    intro p a q hp hq ha
    obtain ⟨q, rfl⟩ : ∃ n, q = n + 1 := ⟨q - 1, by omega⟩
    have hlen : (p.length : Int) + (r.length + 1) = s.g.w := by
      rw [hp] at hrl
      simp at hrl
      omega
    have hc := f6 c (by rw [hp]; simp)
    have hca := hra c (by rw [hp]; simp)
    have hlt : (p.length : Int) < s.g.w := by omega
    have hw := wrap_next (n := p.length) (by omega)
    have hs2 : IntKind.i64.wrap (y * s.g.w + p.length) = y * s.g.w + p.length := wrap_i64 (by omega) (by omega)
    have hat := s_at s y p.length w1 hs2 (by omega) (by omega)
    have hg := row_gt hp
    rw [show (y * s.g.w + p.length).toNat = (y * s.g.w).toNat + p.length by omega, hg] at hat
    simp only [List.length_cons] at ha hq
    have hal := atL_len c.a
    have hel := encB_len c.c
    have ea := t_attr1 a c.a hca.1 hca.2 (by omega)
    have e0 := t_char1 a c.c hc.1 hc.2 (by omega)
    have e1 := t_char1 (a ++ atL c.a) c.c hc.1 hc.2 (by simp; omega)
    have i1 := ih (p ++ [c]) (a ++ atL c.a ++ encB c.c) q (by simp [hp]) (by omega) (by simp; omega)
    have i0 := ih (p ++ [c]) (a ++ encB c.c) q (by simp [hp]) (by omega) (by simp; omega)
    have e2 : ((p ++ [c]).length : Int) = p.length + 1 := by simp
    rw [e2, lastA_app] at i1 i0
    rw [bodyL]
    have g1 : a ++ (atL c.a ++ (encB c.c ++ bodyL (some c.a) r)) = a ++ atL c.a ++ encB c.c ++ bodyL (some c.a) r := by simp
    have g0 : a ++ (([] : List Int) ++ (encB c.c ++ bodyL (some c.a) r)) = a ++ encB c.c ++ bodyL (some c.a) r := by simp
    have ecs : eC.f c = [.int .i64 c.c, .int .i64 c.a] := rfl
    rw [ecs] at hat
    rcases List.eq_nil_or_concat p with hp0 | ⟨p', c', hp0⟩
    · subst hp0
      rw [if_neg (by simp [lastA]), g1]
      refine Eq.trans ?_ i1
      clear i1 i0 ih
      generalize a ++ atL c.a ++ encB c.c = A2 at *
      generalize a ++ atL c.a = A1 at *
      generalize a ++ encB c.c = A3 at *
      simp only [List.length_nil, Int.natCast_zero, Int.add_zero] at hat hlt ⊢
      have hw1 : IntKind.i64.wrap 1 = 1 := rfl
      simp (maxSteps := 1000000) -implicitDefEqProofs [L_impl_put_row, retK_eq, cutK_eq, hlt, hat, ea, e1, hw1]
    · rw [List.concat_eq_append] at hp0
      have hp1 : rowL s.g y = p' ++ c' :: (c :: r) := by rw [hp, hp0]; simp
      have hg' := row_gt hp1
      have hpl : p.length = p'.length + 1 := by rw [hp0]; simp
      have hx0 : ¬ (p.length : Int) = 0 := by omega
      have hp00 : p ≠ [] := by rw [hp0]; simp
      have hw4 : IntKind.i64.wrap ((p.length : Int) - 1) = p'.length := by
        rw [show (p.length : Int) - 1 = p'.length by omega]
        exact wrap_i64 (by omega) (by omega)
      have hs3 : IntKind.i64.wrap (y * s.g.w + p'.length) = y * s.g.w + p'.length := wrap_i64 (by omega) (by omega)
      have hat' := s_at s y p'.length w1 hs3 (by omega) (by omega)
      rw [show (y * s.g.w + p'.length).toNat = (y * s.g.w).toNat + p'.length by omega, hg'] at hat'
      have ecs' : eC.f c' = [.int .i64 c'.c, .int .i64 c'.a] := rfl
      rw [ecs'] at hat'
      have hla : lastA p = some c'.a := by rw [hp0]; exact lastA_app p' c'
      rw [hla]
      by_cases hca' : c'.a = c.a
      · rw [if_pos (by rw [hca']), g0]
        refine Eq.trans ?_ i0
        clear i1 i0 ih
        have hca'' : c.a = c'.a := hca'.symm
        generalize a ++ encB c.c = A3 at *
        generalize c'.a = ca' at *
        subst hca''
        simp (maxSteps := 1000000) -implicitDefEqProofs [L_impl_put_row, retK_eq, cutK_eq, hlt, hat, hat', e0, hw, hw4, hx0, hp00]
      · rw [if_neg (by simpa using hca'), g1]
        refine Eq.trans ?_ i1
        clear i1 i0 ih
        have hca'' : ¬ c.a = c'.a := fun h => hca' h.symm
        generalize a ++ atL c.a ++ encB c.c = A2 at *
        generalize a ++ atL c.a = A1 at *
        simp (maxSteps := 1000000) -implicitDefEqProofs [L_impl_put_row, retK_eq, cutK_eq, hlt, hat, hat', ea, e1, hw, hw4, hx0, hp00, hca'']
end Go.Ab
namespace Go.Ab
set_option maxHeartbeats 8000000
set_option maxRecDepth 100000
theorem plL_len (y : Int) : (plL y).length ≤ 100 := by
  have l1 := dgL_len (y + 1)
  have l2 := dgL_len 1
  unfold plL
  simp only [List.length_cons, List.length_append, List.length_nil]
  omega
def rbL (s : ScrT) (y : Int) : List Int := plL y ++ bodyL none (rowL s.g y)
theorem t_row (s : ScrT) (y : Int) (hf : faultG s.g = 0) (h0 : 0 ≤ y) (h1 : y ≤ s.g.r - 1) (h5 : s.g.r ≤ 6) : X_impl_put_row [ptr 0, ptr 1, .int .i64 y] [blk [.slice none 0 0], scB s] = some (.tuple #[], [blk [slO 2 (rbL s y).length], scB s, ownB eB8 (rbL s y)]) := by
  obtain ⟨w1, w2, w3, f1, f2, f3, f4, f5, f6⟩ := row_facts hf h0 h1
  have e := t_place0 y h0 (by omega)
  have hp := plL_len y
  have l := l_row s y hf h0 h1 (rowL s.g y) [] (plL y) QQ rfl (by have : (72 : Nat) < QQ := by decide
                                                                  omega) (by omega)
  rw [show lastA [] = none from rfl] at l
  refine Eq.trans ?_ l
  clear l
  generalize plL y = P at *
  simp (maxSteps := 1000000) -implicitDefEqProofs [X_impl_put_row, retK_eq, cutK_eq, e]
end Go.Ab
namespace Go.Ab
set_option maxHeartbeats 8000000
set_option maxRecDepth 100000
theorem faultG_of {s : ScrT} (h : faultS s = 0) : faultG s.g = 0 := by
  unfold faultS at h
  split at h
  · assumption
  · rename_i hh; exact absurd h hh
theorem s_impl_RowBytes_bad (s : ScrT) (y : Int) (hs : s.small) (hf : ¬ faultS s = 0) : X_impl_RowBytes [scrV s, .int .i64 y] [] = some (.agg #[.int .i64 (faultS s), .slice none 0 0], []) := by
  have c1 := s_impl_ScreenFault s hs
  simp (maxSteps := 1000000) -implicitDefEqProofs [X_impl_RowBytes, retK_eq, c1, hf]
theorem s_impl_RowBytes_3 (s : ScrT) (y : Int) (hs : s.small) (hf : faultS s = 0) (hi : inB y 0 (s.g.r - 1) = false) : X_impl_RowBytes [scrV s, .int .i64 y] [] = some (.agg #[.int .i64 3, .slice none 0 0], []) := by
  have c1 := s_impl_ScreenFault s hs
  have hb := szB_b (szB_of (faultG_of hf))
  have hw : IntKind.i64.wrap (s.g.r - 1) = s.g.r - 1 := wrap_i64 (by omega) (by omega)
  simp (maxSteps := 1000000) -implicitDefEqProofs [X_impl_RowBytes, retK_eq, c1, hf, hw, s_impl_in, hi]
theorem s_impl_RowBytes (s : ScrT) (y : Int) (hs : s.small) (hf : faultS s = 0) (hi : inB y 0 (s.g.r - 1) = true) : X_impl_RowBytes [scrV s, .int .i64 y] [] = some (.agg #[.int .i64 0, slO 0 (rbL s y).length], [ownB eB8 (rbL s y)]) := by
  have c1 := s_impl_ScreenFault s hs
  have hb := szB_b (szB_of (faultG_of hf))
  have hw : IntKind.i64.wrap (s.g.r - 1) = s.g.r - 1 := wrap_i64 (by omega) (by omega)
  have hi' := inB_iff.mp hi
  have c2 := t_row s y (faultG_of hf) hi'.1 hi'.2 (by omega)
  generalize rbL s y = L at *
  simp (maxSteps := 1000000) -implicitDefEqProofs [X_impl_RowBytes, retK_eq, c1, c2, hf, hw, s_impl_in, hi]
end Go.Ab
namespace Go.Ab
set_option maxHeartbeats 8000000
set_option maxRecDepth 100000
theorem s_digS' (n : Int) (h : (1 ≤ n ∧ n ≤ 6) ∨ (30 ≤ n ∧ n ≤ 37)) : X_spec_l1Digits [.int .i64 n] [] = some (.string (bstr (dgL n)), []) := s_digS n (by omega) (by omega)
theorem pl_strS (a b : List Int) : (⟨#[27, 91]⟩ : ByteArray) ++ bstr a ++ (⟨#[59]⟩ : ByteArray) ++ bstr b ++ (⟨#[72]⟩ : ByteArray) = bstr (27 :: (91 :: (a ++ (59 :: (b ++ [72]))))) := by
  show bstr [27, 91] ++ bstr a ++ bstr [59] ++ bstr b ++ bstr [72] = _
  simp only [bstr_app]
  congr 1
  simp
theorem s_spec_l7Place (y : Int) (h0 : 0 ≤ y) (h1 : y ≤ 5) : X_spec_l7Place [.int .i64 y, .int .i64 0] [] = some (slO 0 (plL y).length, [ownB eB8 (plL y)]) := by
  have d1 := s_digS' (y + 1) (by omega)
  have d2 := s_digS' 1 (by omega)
  have w1 : IntKind.i64.wrap (y + 1) = y + 1 := wrap_i64 (by omega) (by omega)
  have w2 : IntKind.i64.wrap 1 = 1 := rfl
  have l1 := dgL_len (y + 1)
  have l2 := dgL_len 1
  have hok : byOk (plL y) := esc_ok (pl_ok h0 h1)
  have hc := fun m => cvSB_b m (plL y) hok
  have z := fun l => bstr_len l
  have z1 : (⟨#[27, 91]⟩ : ByteArray).size = 2 := rfl
  have z2 : (⟨#[59]⟩ : ByteArray).size = 1 := rfl
  have z3 : (⟨#[72]⟩ : ByteArray).size = 1 := rfl
  have hs := pl_strS (dgL (y + 1)) (dgL 1)
  have g1 : 2 + (dgL (y + 1)).length ≤ 4611686018427387904 := by omega
  have g2 : 2 + (dgL (y + 1)).length + 1 ≤ 4611686018427387904 := by omega
  have g3 : 2 + (dgL (y + 1)).length + 1 + (dgL 1).length ≤ 4611686018427387904 := by omega
  have g4 : 2 + (dgL (y + 1)).length + 1 + (dgL 1).length + 1 ≤ 4611686018427387904 := by omega
  rw [show 27 :: (91 :: (dgL (y + 1) ++ (59 :: (dgL 1 ++ [72])))) = plL y from rfl] at hs
  clear hok
  generalize plL y = P at *
  generalize dgL (y + 1) = A at *
  generalize dgL 1 = B at *
  simp -implicitDefEqProofs [X_spec_l7Place, retK_eq, d1, d2, w1, w2, z, z1, z2, z3, g1, g2, g3, g4, hs, hc, ByteArray.size_append]
theorem at_ok (n : Int) : byOk (atL n) := by
  have a := d30_ok n
  unfold atL at1 at2
  intro x hx
  simp only [List.mem_append, List.mem_cons] at hx
  rcases hx with (rfl | hx) | hx | hx | hx | hx
  · omega
  · exact a x (by simpa using hx)
  · split at hx
    · simp at hx
    · simp at hx; omega
  · split at hx
    · simp at hx
    · simp at hx; omega
  · subst hx; omega
  · simp at hx
theorem at_str (D a b : List Int) : (⟨#[27, 91, 48, 59]⟩ : ByteArray) ++ bstr D ++ bstr a ++ bstr b ++ (⟨#[109]⟩ : ByteArray) = bstr (27 :: (91 :: 48 :: 59 :: D) ++ (a ++ (b ++ [109]))) := by
  show bstr [27, 91, 48, 59] ++ bstr D ++ bstr a ++ bstr b ++ bstr [109] = _
  simp only [bstr_app]
  congr 1
  simp
theorem bstr_nil (x : ByteArray) : x ++ bstr [] = x := by
  apply ByteArray.ext
  simp [bstr]
theorem s_spec_l7Attr (n : Int) (h0 : 0 ≤ n) (h1 : n ≤ 31) : X_spec_l7Attr [.int .i64 n] [] = some (slO 0 (atL n).length, [ownB eB8 (atL n)]) := by
  have hm : n.tmod 8 = n % 8 := Int.tmod_eq_emod_of_nonneg h0
  have d1 := s_digS' (30 + n % 8) (by omega)
  have w0 : IntKind.i64.wrap (n % 8) = n % 8 := wrap_i64 (by omega) (by omega)
  have w1 : IntKind.i64.wrap (30 + n % 8) = 30 + n % 8 := wrap_i64 (by omega) (by omega)
  have l1 := dgL_len (30 + n % 8)
  have hc := fun m => cvSB_b m (atL n) (at_ok n)
  have hs := at_str (dgL (30 + n % 8)) (at1 n) (at2 n)
  rw [show (27 :: (91 :: 48 :: 59 :: dgL (30 + n % 8)) ++ (at1 n ++ (at2 n ++ [109])) : List Int) = atL n from rfl] at hs
  have z1 : (⟨#[27, 91, 48, 59]⟩ : ByteArray).size = 4 := rfl
  have z2 : (bstr (dgL (30 + n % 8))).size = (dgL (30 + n % 8)).length := bstr_len _
  have k1 : (⟨#[59, 49]⟩ : ByteArray) = bstr [59, 49] := rfl
  have k2 : (⟨#[59, 55]⟩ : ByteArray) = bstr [59, 55] := rfl
  have z3 : (bstr [59, 49]).size = 2 := rfl
  have z4 : (bstr [59, 55]).size = 2 := rfl
  have z5 : (⟨#[109]⟩ : ByteArray).size = 1 := rfl
  generalize atL n = L at *
  generalize dgL (30 + n % 8) = D at *
  have g1 : 4 + D.length ≤ 4611686018427387904 := by omega
  have g2 : 4 + D.length + 2 ≤ 4611686018427387904 := by omega
  have g3 : 4 + D.length + 2 + 2 ≤ 4611686018427387904 := by omega
  have g4 : 4 + D.length + 2 + 2 + 1 ≤ 4611686018427387904 := by omega
  have g5 : 4 + D.length + 2 + 1 ≤ 4611686018427387904 := by omega
  have g6 : 4 + D.length + 1 ≤ 4611686018427387904 := by omega
  by_cases c1 : andI .i64 n 8 = 0
  · by_cases c2 : andI .i64 n 16 = 0
    · simp only [at1, at2, c1, c2, if_true, bstr_nil] at hs
      simp -implicitDefEqProofs [X_spec_l7Attr, retK_eq, hm, d1, w0, w1, hs, hc, z1, z2, z3, z4, z5, g1, g2, g3, g4, g5, g6, k1, k2, c1, c2, ByteArray.size_append]
    · simp only [at1, at2, c1, c2, if_true, if_false, bstr_nil] at hs
      simp -implicitDefEqProofs [X_spec_l7Attr, retK_eq, hm, d1, w0, w1, hs, hc, z1, z2, z3, z4, z5, g1, g2, g3, g4, g5, g6, k1, k2, c1, c2, ByteArray.size_append]
  · by_cases c2 : andI .i64 n 16 = 0
    · simp only [at1, at2, c1, c2, if_true, if_false, bstr_nil] at hs
      simp -implicitDefEqProofs [X_spec_l7Attr, retK_eq, hm, d1, w0, w1, hs, hc, z1, z2, z3, z4, z5, g1, g2, g3, g4, g5, g6, k1, k2, c1, c2, ByteArray.size_append]
    · simp only [at1, at2, c1, c2, if_false, bstr_nil] at hs
      simp -implicitDefEqProofs [X_spec_l7Attr, retK_eq, hm, d1, w0, w1, hs, hc, z1, z2, z3, z4, z5, g1, g2, g3, g4, g5, g6, k1, k2, c1, c2, ByteArray.size_append]
end Go.Ab
namespace Go.Ab
set_option maxHeartbeats 8000000
set_option maxRecDepth 100000
theorem l_spec_l7Row (r : List CellT) : ∀ (p : List CellT) (out : List Int) (q n : Nat), r.length < q → n = (p ++ r).length → n < 1000 → out.length + 30 * r.length < 400000 → (∀ x ∈ r, 0 ≤ x.c ∧ x.c ≤ 65535) → (∀ x ∈ r, 0 ≤ x.a ∧ x.a ≤ 31) → L_spec_l7Row 0 q 0 [slO 0 out.length, slO 1 n, .int .i64 p.length] [ownB eB8 out, ownB eC (p ++ r)] = some (slO 0 (out ++ bodyL (lastA p) r).length, [ownB eB8 (out ++ bodyL (lastA p) r)]) := by
  induction r with
  | nil =>
    intro p out q n hq hn hl ho hr hra
    obtain ⟨q, rfl⟩ : ∃ n, q = n + 1 := ⟨q - 1, by omega⟩
    subst hn
    rw [bodyL, List.append_nil]
    simp -implicitDefEqProofs [L_spec_l7Row, retK_eq]
  | cons c r ih =>
    intro p out q n hq hn hl ho hr hra
    obtain ⟨q, rfl⟩ : ∃ n, q = n + 1 := ⟨q - 1, by omega⟩
    have hx := hr c (by simp)
    have hxa := hra c (by simp)
    have hn' : n = p.length + (r.length + 1) := by simpa using hn
    simp only [List.length_cons] at ho hq
    have hal := atL_len c.a
    have hel := encB_len c.c
    have i1 := ih (p ++ [c]) (out ++ atL c.a ++ encB c.c) q n (by omega) (by simpa using hn) hl (by simp; omega) (fun y hy => hr y (by simp [hy])) (fun y hy => hra y (by simp [hy]))
    have i0 := ih (p ++ [c]) (out ++ encB c.c) q n (by omega) (by simpa using hn) hl (by simp; omega) (fun y hy => hr y (by simp [hy])) (fun y hy => hra y (by simp [hy]))
    have e2 : (((p ++ [c]).length : Nat) : Int) = p.length + 1 := by simp
    have e3 : p ++ [c] ++ r = p ++ c :: r := by simp
    rw [e2, e3, lastA_app] at i1 i0
    rw [bodyL]
    have g1 : out ++ (atL c.a ++ (encB c.c ++ bodyL (some c.a) r)) = out ++ atL c.a ++ encB c.c ++ bodyL (some c.a) r := by simp
    have g0 : out ++ (([] : List Int) ++ (encB c.c ++ bodyL (some c.a) r)) = out ++ encB c.c ++ bodyL (some c.a) r := by simp
    have hw := wrap_next (n := p.length) (by omega)
    have c1 := s_spec_l1Encode c.c hx.1 hx.2
    have c2 := s_spec_l7Attr c.a hxa.1 hxa.2
    have a1 := fun m n o cc k o2 c2 => apL_sl (m := m) (sz := 1) (bytes := 1) (n := n) (o := o) (len := out.length) (c := cc) (n2 := k) (o2 := o2) (len2 := (atL c.a).length) (c2 := c2) (by omega) (by omega)
    have a2 := fun m n o cc k o2 c2 => apL_sl (m := m) (sz := 1) (bytes := 1) (n := n) (o := o) (len := out.length + (atL c.a).length) (c := cc) (n2 := k) (o2 := o2) (len2 := (encB c.c).length) (c2 := c2) (by omega) (by omega)
    have a0 := fun m n o cc k o2 c2 => apL_sl (m := m) (sz := 1) (bytes := 1) (n := n) (o := o) (len := out.length) (c := cc) (n2 := k) (o2 := o2) (len2 := (encB c.c).length) (c2 := c2) (by omega) (by omega)
    have b1 := fun m n cs k => apB_own (E := eB8) (m := m) (l := out) (n := n) (sz := 1) (cs := cs) (k := k) rfl
    have b2 := fun m n cs k => apB_own (E := eB8) (m := m) (l := out ++ atL c.a) (n := n) (sz := 1) (cs := cs) (k := k) rfl
    have q1 : (⟨cellsE eB8 out ++ cellsE eB8 (atL c.a), 1, true, true⟩ : Blk) = ownB eB8 (out ++ atL c.a) := by rw [← cellsE_append]; rfl
    have q2 : (⟨cellsE eB8 (out ++ atL c.a) ++ cellsE eB8 (encB c.c), 1, true, true⟩ : Blk) = ownB eB8 (out ++ atL c.a ++ encB c.c) := by rw [← cellsE_append]; rfl
    have q0 : (⟨cellsE eB8 out ++ cellsE eB8 (encB c.c), 1, true, true⟩ : Blk) = ownB eB8 (out ++ encB c.c) := by rw [← cellsE_append]; rfl
    have l2 : (out ++ atL c.a).length = out.length + (atL c.a).length := List.length_append
    have l3 : (out ++ atL c.a ++ encB c.c).length = out.length + (atL c.a).length + (encB c.c).length := by rw [List.length_append, List.length_append]
    have l4 : (out ++ encB c.c).length = out.length + (encB c.c).length := List.length_append
    rw [l2] at b2
    rcases List.eq_nil_or_concat p with hp0 | ⟨p', c', hp0⟩
    · subst hp0
      rw [if_neg (by simp [lastA]), g1]
      refine Eq.trans ?_ i1
      rw [l3]
      clear i1 i0 ih
      have k1 := cell_c [] r c
      have k2 := cell_a [] r c
      have k3 := fun h => cell_c' [] r c h
      have k4 := fun h => cell_a' [] r c h
      simp only [List.nil_append, List.length_nil, Nat.zero_mul, Nat.zero_add, Int.natCast_zero, Int.zero_add] at *
      generalize out ++ atL c.a ++ encB c.c = A2 at *
      generalize out ++ atL c.a = A1 at *
      generalize out ++ encB c.c = A3 at *
      generalize atL c.a = E1 at *
      generalize encB c.c = E2 at *
      have hw1 : IntKind.i64.wrap 1 = 1 := rfl
      subst hn'
      have x0 : ixaX 2 (slO 1 (r.length + 1)) (.int .i64 0) = some (.pointer (some ⟨1, 0, none⟩)) := ixa_sl (sz := 2) .i64 (n := 1) (o := 0) (len := r.length + 1) (c := r.length + 1) (j := 0) (by omega) (by omega)
      simp (maxSteps := 1000000) -implicitDefEqProofs [L_spec_l7Row, retK_eq, cutK_eq, c1, c2, a1, a2, b1, b2, q1, q2, hw1, k1, k2, k3, k4, x0]
    · rw [List.concat_eq_append] at hp0
      have hpl : p.length = p'.length + 1 := by rw [hp0]; simp
      have hx0 : ¬ (p.length : Int) = 0 := by omega
      have hp00 : p ≠ [] := by rw [hp0]; simp
      have hw4 : IntKind.i64.wrap ((p.length : Int) - 1) = p'.length := by
        rw [show (p.length : Int) - 1 = p'.length by omega]
        exact wrap_i64 (by omega) (by omega)
      have hE : p ++ c :: r = p' ++ c' :: (c :: r) := by rw [hp0]; simp
      have k5 : (cellsE eC (p ++ c :: r))[p'.length * 2 + 1]? = some (.int .i64 c'.a) := by rw [hE]; exact cell_a p' (c :: r) c'
      have k6 : ∀ h : p'.length * 2 + 1 < (cellsE eC (p ++ c :: r)).length, (cellsE eC (p ++ c :: r))[p'.length * 2 + 1]'h = .int .i64 c'.a := by
        intro h
        rw [List.getElem?_eq_getElem h] at k5
        exact Option.some.inj k5
      have hk : p'.length < p.length := by omega
      have hk2 : p'.length < p.length + (r.length + 1) := by omega
      have hla : lastA p = some c'.a := by rw [hp0]; exact lastA_app p' c'
      rw [hla]
      generalize p'.length = k at *
      have xk : ixaX 2 (slO 1 (p.length + (r.length + 1))) (.int .i64 (k : Int)) = some (.pointer (some ⟨1, k * 2, none⟩)) := by
        have := ixa_sl (sz := 2) .i64 (n := 1) (o := 0) (len := p.length + (r.length + 1)) (c := p.length + (r.length + 1)) (j := (k : Int)) (by omega) (by omega)
        simpa using this
      by_cases hca' : c'.a = c.a
      · rw [if_pos (by rw [hca']), g0]
        refine Eq.trans ?_ i0
        rw [l4]
        clear i1 i0 ih
        generalize out ++ encB c.c = A3 at *
        generalize encB c.c = E2 at *
        subst hn'
        simp (maxSteps := 1000000) -implicitDefEqProofs [L_spec_l7Row, retK_eq, cutK_eq, c1, a0, b1, q0, hw, hw4, hx0, hp00, k5, k6, hk, hk2, xk, hca']
      · rw [if_neg (by simpa using hca'), g1]
        refine Eq.trans ?_ i1
        rw [l3]
        clear i1 i0 ih
        have hca'' : ¬ c.a = c'.a := fun h => hca' h.symm
        generalize out ++ atL c.a ++ encB c.c = A2 at *
        generalize out ++ atL c.a = A1 at *
        generalize atL c.a = E1 at *
        generalize encB c.c = E2 at *
        subst hn'
        simp (maxSteps := 1000000) -implicitDefEqProofs [L_spec_l7Row, retK_eq, cutK_eq, c1, c2, a1, a2, b1, b2, q1, q2, hw, hw4, hx0, hp00, k5, k6, hk, hk2, xk, hca'']
end Go.Ab
namespace Go.Ab
set_option maxHeartbeats 8000000
set_option maxRecDepth 100000
theorem s_spec_l7Row (s : ScrT) (y : Int) (hf : faultG s.g = 0) (h0 : 0 ≤ y) (h1 : y ≤ s.g.r - 1) (h5 : s.g.r ≤ 6) (rest : List Value) : X_spec_l7Row [scrP s rest, .int .i64 y] [] = some (slO 0 (rbL s y).length, [ownB eB8 (rbL s y)]) := by
  obtain ⟨w1, w2, w3, f1, f2, f3, f4, f5, f6⟩ := row_facts hf h0 h1
  have e := s_spec_l7Place y h0 (by omega)
  have hp := plL_len y
  have c1 := fun rest => s_spec_l3RowOf hf h0 h1 rest
  have hq : (rowL s.g y).length < QQ := by
    have : (72 : Nat) < QQ := by decide
    omega
  have l := l_spec_l7Row (rowL s.g y) [] (plL y) QQ (rowL s.g y).length hq rfl (by omega) (by omega) f6 (row_ok hf)
  rw [show lastA [] = none from rfl] at l
  rw [show plL y ++ bodyL none (rowL s.g y) = rbL s y from rfl] at l
  generalize rbL s y = L at *
  generalize plL y = P at *
  simp only [List.nil_append, List.length_nil, Int.natCast_zero] at l
  simp +contextual (maxSteps := 1000000) -implicitDefEqProofs [X_spec_l7Row, retK_eq, cutK_eq, e, c1, l]
theorem s_spec_RowBytes_bad (s : ScrT) (y : Int) (hs : s.small) (hf : ¬ faultS s = 0) : X_spec_RowBytes [scrV s, .int .i64 y] [] = some (.agg #[.int .i64 (faultS s), .slice none 0 0], []) := by
  have c1 := s_spec_l5Fault s hs
  simp (maxSteps := 1000000) -implicitDefEqProofs [X_spec_RowBytes, retK_eq, c1, hf]
theorem s_spec_RowBytes_3 (s : ScrT) (y : Int) (hs : s.small) (hf : faultS s = 0) (hi : inB y 0 (s.g.r - 1) = false) : X_spec_RowBytes [scrV s, .int .i64 y] [] = some (.agg #[.int .i64 3, .slice none 0 0], []) := by
  have c1 := s_spec_l5Fault s hs
  have hb := szB_b (szB_of (faultG_of hf))
  have hw : IntKind.i64.wrap (s.g.r - 1) = s.g.r - 1 := wrap_i64 (by omega) (by omega)
  simp (maxSteps := 1000000) -implicitDefEqProofs [X_spec_RowBytes, retK_eq, c1, hf, hw, s_spec_l1In, hi]
theorem s_spec_RowBytes (s : ScrT) (y : Int) (hs : s.small) (hf : faultS s = 0) (hi : inB y 0 (s.g.r - 1) = true) : X_spec_RowBytes [scrV s, .int .i64 y] [] = some (.agg #[.int .i64 0, slO 0 (rbL s y).length], [ownB eB8 (rbL s y)]) := by
  have c1 := s_spec_l5Fault s hs
  have hb := szB_b (szB_of (faultG_of hf))
  have hw : IntKind.i64.wrap (s.g.r - 1) = s.g.r - 1 := wrap_i64 (by omega) (by omega)
  have hi' := inB_iff.mp hi
  have c2 := s_spec_l7Row s y (faultG_of hf) hi'.1 hi'.2 (by omega)
  generalize rbL s y = L at *
  simp (maxSteps := 1000000) -implicitDefEqProofs [X_spec_RowBytes, retK_eq, c1, c2, hf, hw, s_spec_l1In, hi]
end Go.Ab
namespace Go.Ab
set_option maxHeartbeats 8000000
abbrev nilR : Value := .slice none 0 0
def markB (t : Int) : Nat → List Int
  | 0 => []
  | n + 1 => IntKind.u8.wrap t :: markB (t + 1) n
@[simp] theorem markB_len (t : Int) (n : Nat) : (markB t n).length = n := by
  induction n generalizing t with
  | zero => rfl
  | succ n ih => simp [markB, ih]
theorem l_markByteS (r : List Int) : ∀ (p : List Int) (t : Int) (q n : Nat), r.length < q → n = (p ++ r).length → n < 1000000000 → 0 ≤ t → t + r.length ≤ 1000000000000 → L_laws_markByteS 1 q 0 [slO 0 n, .int .i64 t, .int .i64 p.length] [ownB eB8 (p ++ r)] = some (.int .i64 (t + r.length), [ownB eB8 (p ++ markB t r.length)]) := by
  induction r with
  | nil =>
    intro p t q n hq hn hl h0 h1
    obtain ⟨q, rfl⟩ : ∃ n, q = n + 1 := ⟨q - 1, by omega⟩
    subst hn
    simp -implicitDefEqProofs [L_laws_markByteS, retK_eq, markB]
  | cons x r ih =>
    intro p t q n hq hn hl h0 h1
    obtain ⟨q, rfl⟩ : ∃ n, q = n + 1 := ⟨q - 1, by omega⟩
    simp only [List.length_cons] at h1
    have h := ih (p ++ [IntKind.u8.wrap t]) (t + 1) q n (by simp at hq; omega) (by simpa using hn) hl (by omega) (by push_cast at h1; omega)
    simp at h
    have hw := wrap_next (n := p.length) (by simp at hn; omega)
    have hw2 := wrap_one h0 (by omega)
    have hn' : n = p.length + (r.length + 1) := by simpa using hn
    subst hn'
    have hy := lay_mid eB8 p x r (IntKind.u8.wrap t)
    simp at hy
    have e : t + ((r.length : Int) + 1) = t + 1 + r.length := by omega
    simp +contextual -implicitDefEqProofs [L_laws_markByteS, retK_eq, cutK_eq, hw, hw2.1, hy, h, markB, e]
theorem s_markByteS (l : List Int) (t : Int) (hl : l.length < 1000000000) (h0 : 0 ≤ t) (h1 : t ≤ 100000000000) : X_laws_markByteS [slO 0 l.length, .int .i64 t] [ownB eB8 l] = some (.int .i64 (t + l.length), [ownB eB8 (markB t l.length)]) := by
  have h := l_markByteS l [] t QQ l.length (by unfold QQ; omega) rfl hl h0 (by omega)
  simp at h
  simp +contextual -implicitDefEqProofs [X_laws_markByteS, retK_eq, cutK_eq, h]
theorem l_eqByteS (r : List Int) : ∀ (p : List Int) (q : Nat), r.length < q → (p ++ r).length < 1000000000 → L_laws_eqByteS 0 q 0 [frS eB8 (p ++ r), frS eB8 (p ++ r), .int .i64 p.length] [] = some (.bool true, []) := by
  induction r with
  | nil =>
    intro p q hq hl
    obtain ⟨q, rfl⟩ : ∃ n, q = n + 1 := ⟨q - 1, by omega⟩
    simp +contextual -implicitDefEqProofs [L_laws_eqByteS, retK_eq]
  | cons x r ih =>
    intro p q hq hl
    obtain ⟨q, rfl⟩ : ∃ n, q = n + 1 := ⟨q - 1, by omega⟩
    have h := ih (p ++ [x]) q (by simp at hq; omega) (by simpa using hl)
    simp at h
    have hx := ixa_mid eB8 (sz := 1) rfl .i64 p x r
    have hw := wrap_next (n := p.length) (by simp at hl; omega)
    simp +contextual -implicitDefEqProofs [L_laws_eqByteS, retK_eq, cutK_eq, hx, hw, h]
theorem s_eqByteS (a : List Int) (ha : a.length < 1000000000) : X_laws_eqByteS [frS eB8 a, frS eB8 a] [] = some (.bool true, []) := by
  have h2 := l_eqByteS a [] QQ (by unfold QQ; omega) (by simpa using ha)
  simp at h2
  simp +contextual -implicitDefEqProofs [X_laws_eqByteS, cutK_eq, retK_eq, h2]
theorem l_heldByteS (n : Nat) : ∀ (p : List Int) (t : Int) (q : Nat), n < q → p.length + n < 1000000000 → 0 ≤ t → t + n ≤ 1000000000000 → L_laws_heldByteS 0 q 0 [frS eB8 (p ++ markB t n), .int .i64 t, .int .i64 p.length] [] = some (.int .i64 (t + n), []) := by
  induction n with
  | zero =>
    intro p t q hq hn h0 h1
    obtain ⟨q, rfl⟩ : ∃ n, q = n + 1 := ⟨q - 1, by omega⟩
    simp -implicitDefEqProofs [L_laws_heldByteS, retK_eq, markB]
  | succ n ih =>
    intro p t q hq hn h0 h1
    obtain ⟨q, rfl⟩ : ∃ n, q = n + 1 := ⟨q - 1, by omega⟩
    have h := ih (p ++ [IntKind.u8.wrap t]) (t + 1) q (by omega) (by simp; omega) (by omega) (by push_cast at h1; omega)
    simp at h
    have hx := ixa_mid eB8 (sz := 1) rfl .i64 p (IntKind.u8.wrap t) (markB (t + 1) n)
    have hw := wrap_next (n := p.length) (by omega)
    have hw2 := wrap_one h0 (by omega)
    have e : t + ((n : Int) + 1) = t + 1 + n := by omega
    simp +contextual -implicitDefEqProofs [L_laws_heldByteS, retK_eq, cutK_eq, hx, hw, hw2.1, h, markB, e]
theorem s_heldByteS (n : Nat) (t : Int) (hn : n < 1000000000) (h0 : 0 ≤ t) (h1 : t ≤ 100000000000) : X_laws_heldByteS [frS eB8 (markB t n), .int .i64 t] [] = some (.int .i64 (t + n), []) := by
  have h := l_heldByteS n [] t QQ (by unfold QQ; omega) (by simpa using hn) h0 (by omega)
  simp at h
  simp +contextual -implicitDefEqProofs [X_laws_heldByteS, retK_eq, cutK_eq, h]
abbrev brV (c : Int) (l : List Int) : Value := .agg #[.int .i64 c, frS eB8 l]
theorem s_eqBytesResult (c : Int) (l : List Int) (hl : l.length < 1000000000) : X_laws_eqBytesResult [brV c l, brV c l] [] = some (.bool true, []) := by
  have h := s_eqByteS l hl
  simp -implicitDefEqProofs [X_laws_eqBytesResult, retK_eq, h]
theorem s_heldBytesResult (c : Int) (n : Nat) (hn : n < 1000000000) : X_laws_heldBytesResult [.agg #[.int .i64 c, frS eB8 (markB 1 n)], .int .i64 1] [] = some (.int .i64 (1 + n), []) := by
  have h := s_heldByteS n 1 hn (by omega) (by omega)
  have g : ¬ (1 + (n : Int)) < 0 := by omega
  simp -implicitDefEqProofs [X_laws_heldBytesResult, retK_eq, h, g]
abbrev brO (c : Int) (k n : Nat) : Value := .agg #[.int .i64 c, slO k n]
theorem can_br (c : Int) (l : List Int) : Can (brO c 0 l.length) [ownB eB8 l] := ⟨by simp, by simp, by simp⟩
theorem fzc_br (c : Int) (l : List Int) : fz 64 [ownB eB8 l] (brO c 0 l.length) = some (brV c l) := by simp
theorem rnh_br (c : Int) (N n : Nat) : rnV 8 hard (sft N 1) (brO c 0 n) = some (brO c N n) := by simp
theorem s_markBytesResult (c : Int) (l : List Int) (hl : l.length < 1000000000) : X_laws_markBytesResult [brO c 0 l.length, .int .i64 1] [ownB eB8 l] = some (.int .i64 (1 + l.length), [ownB eB8 (markB 1 l.length)]) := by
  have h := s_markByteS l 1 hl (by omega) (by omega)
  simp -implicitDefEqProofs [X_laws_markBytesResult, retK_eq, h]
theorem rnh_br0 (c : Int) (N : Nat) : rnV 8 hard (sft N 0) (.agg #[.int .i64 c, nilR]) = some (.agg #[.int .i64 c, nilR]) := by simp
theorem can_br0 (c : Int) : Can (.agg #[.int .i64 c, nilR]) [] := ⟨by simp, by simp, by simp⟩
theorem fzc_br0 (c : Int) : fz 64 [] (.agg #[.int .i64 c, nilR]) = some (brV c []) := by simp [frS_nil]
theorem L_markByteS0 : X_laws_markByteS [nilR, .int .i64 1] [] = some (.int .i64 1, []) := by
  obtain ⟨q, hq⟩ : ∃ q, QQ = q + 1 := ⟨QQ - 1, by unfold QQ; omega⟩
  simp -implicitDefEqProofs [X_laws_markByteS, L_laws_markByteS, retK_eq, cutK_eq, hq]
theorem s_markBytesResult0 (c : Int) : X_laws_markBytesResult [.agg #[.int .i64 c, nilR], .int .i64 1] [] = some (.int .i64 1, []) := by
  have h := L_markByteS0
  simp -implicitDefEqProofs [X_laws_markBytesResult, retK_eq, h]
theorem s_heldBytesResult0 (c : Int) : X_laws_heldBytesResult [brV c [], .int .i64 1] [] = some (.int .i64 1, []) := by
  have := s_heldBytesResult c 0 (by omega)
  simpa [markB] using this
end Go.Ab
