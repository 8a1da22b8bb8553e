/- What the functions of the program answer, for all arguments that the theorems name as conditions. -/
import Derived.Test.YtiepalcnkcjphaaXFnExactVtText
set_option linter.unusedVariables false
set_option linter.unusedSimpArgs false
namespace Go.Ab
set_option maxHeartbeats 4000000
structure CellT where
  c : Int
  a : Int
deriving Inhabited, DecidableEq
def eC : Enc CellT := ⟨2, fun x => [.int .i64 x.c, .int .i64 x.a], by decide, fun _ => rfl, fun _ => rfl⟩
@[simp] theorem eC_f (x : CellT) : eC.f x = [.int .i64 x.c, .int .i64 x.a] := (rfl)
@[simp] theorem eC_sz : eC.sz = 2 := (rfl)
theorem eC_hard : eC.Hard := fun _ => rfl
abbrev celV (x : CellT) : Value := .agg #[.int .i64 x.c, .int .i64 x.a]
abbrev celP (x : CellT) : Value := roP [.int .i64 x.c, .int .i64 x.a]
structure GridT where
  r : Int
  w : Int
  cs : List CellT
  bk : List CellT
abbrev gridV (g : GridT) : Value := .agg #[.int .i64 g.r, .int .i64 g.w, frS eC g.cs, frS eC g.bk]
abbrev gridP (g : GridT) (rest : List Value) : Value := roP (.int .i64 g.r :: .int .i64 g.w :: frS eC g.cs :: frS eC g.bk :: rest)
def GridT.small (g : GridT) : Prop := g.cs.length < 1000000000 ∧ g.bk.length < 1000000000
end Go.Ab
namespace Go.Ab
set_option maxHeartbeats 4000000
def inB (x a b : Int) : Bool := decide (a ≤ x) && decide (x ≤ b)
theorem s_impl_in (x a b : Int) : X_impl_in [.int .i64 x, .int .i64 a, .int .i64 b] [] = some (.bool (inB x a b), []) := by
  simp +contextual -implicitDefEqProofs [X_impl_in, retK_eq]
  by_cases h : a ≤ x <;> simp [h, inB]
theorem s_spec_l1In (x a b : Int) : X_spec_l1In [.int .i64 x, .int .i64 a, .int .i64 b] [] = some (.bool (inB x a b), []) := by
  simp +contextual -implicitDefEqProofs [X_spec_l1In, retK_eq]
  by_cases h : a ≤ x <;> simp [h, inB]
def chB (x : Int) : Bool := inB x 0 65535 && !inB x 55296 57343
theorem s_impl_isChar (x : Int) : X_impl_isChar [.int .i64 x] [] = some (.bool (chB x), []) := by
  simp +contextual -implicitDefEqProofs [X_impl_isChar, s_impl_in, retK_eq]
  unfold chB
  cases inB x 0 65535 <;> simp
theorem s_spec_l1Char (x : Int) : X_spec_l1Char [.int .i64 x] [] = some (.bool (chB x), []) := by
  simp +contextual -implicitDefEqProofs [X_spec_l1Char, s_spec_l1In, retK_eq]
  unfold chB
  by_cases h : inB x 0 55295 = true
  · have : inB x 0 65535 = true ∧ inB x 55296 57343 = false := by simp [inB] at h ⊢; omega
    simp [h, this]
  · by_cases h2 : inB x 57344 65535 = true
    · have : inB x 0 65535 = true ∧ inB x 55296 57343 = false := by simp [inB] at h h2 ⊢; omega
      simp [h, h2, this]
    · have : inB x 0 65535 = false ∨ inB x 55296 57343 = true := by simp [inB] at h h2 ⊢; omega
      simp [h, h2]
      intro h3
      rcases this with h4 | h4
      · rw [h3] at h4; cases h4
      · exact h4
def unl (t : Bool) (a : Int) : Int := if t = true then 0 else a
theorem s_impl_unless (t : Bool) (a : Int) : X_impl_unless [.bool t, .int .i64 a] [] = some (.int .i64 (unl t a), []) := by
  simp +contextual -implicitDefEqProofs [X_impl_unless, retK_eq]
  cases t <;> simp [unl]
def atB (n : Int) : Bool := inB n 0 31
theorem s_impl_isAttr (n : Int) : X_impl_isAttr [.int .i64 n] [] = some (.bool (atB n), []) := by
  simp +contextual -implicitDefEqProofs [X_impl_isAttr, s_impl_in, retK_eq, atB]
def shB' (c : Int) : Bool := chB c && (decide (32 ≤ c) && (c != 127))
theorem s_impl_shows (c : Int) : X_impl_shows [.int .i64 c] [] = some (.bool (shB' c), []) := by
  simp +contextual -implicitDefEqProofs [X_impl_shows, s_impl_isChar, retK_eq]
  unfold shB'
  cases chB c <;> by_cases h : 32 ≤ c <;> simp [h]
def okC (x : CellT) : Bool := shB' x.c && atB x.a
theorem s_impl_Cell_ok (x : CellT) : X_impl_Cell_ok [celV x] [] = some (.bool (okC x), []) := by
  simp +contextual -implicitDefEqProofs [X_impl_Cell_ok, s_impl_shows, s_impl_isAttr, retK_eq]
  unfold okC
  cases shB' x.c <;> simp
theorem s_spec_l3Cell (x : CellT) : X_spec_l3Cell [celP x] [] = some (.bool (okC x), []) := by
  simp +contextual -implicitDefEqProofs [X_spec_l3Cell, s_spec_l1Char, s_spec_l1In, retK_eq]
  unfold okC shB' atB
  cases chB x.c <;> by_cases h : 32 ≤ x.c <;> by_cases h2 : x.c = 127 <;> simp [h, h2]
def szB (r w : Int) : Bool := inB r 1 6 && inB w 2 12
theorem szB_b {r w : Int} (h : szB r w = true) : 1 ≤ r ∧ r ≤ 6 ∧ 2 ≤ w ∧ w ≤ 12 := by simp [szB, inB] at h; omega
theorem s_spec_l3Size (r w : Int) : X_spec_l3Size [.int .i64 r, .int .i64 w] [] = some (.bool (szB r w), []) := by
  simp +contextual -implicitDefEqProofs [X_spec_l3Size, retK_eq, s_spec_l1In, szB]
  cases inB r 1 6 <;> simp
theorem s_impl_sizeOk (r w : Int) : X_impl_sizeOk [.int .i64 r, .int .i64 w] [] = some (.bool (szB r w), []) := by
  simp +contextual -implicitDefEqProofs [X_impl_sizeOk, retK_eq, s_impl_in, szB]
  cases inB r 1 6 <;> simp
def allC (l : List CellT) : Bool := l.all okC
theorem allC_cons (x : CellT) (l : List CellT) : allC (x :: l) = (okC x && allC l) := rfl
theorem l_spec_l3Cells (r : List CellT) : ∀ (p : List CellT) (q : Nat), r.length < q → (p ++ r).length < 1000000000 → L_spec_l3Cells 0 q 0 [frS eC (p ++ r), .int .i64 p.length] [] = some (.bool (allC r), []) := by
  induction r with
  | nil =>
    intro p q hq hl
    obtain ⟨q, rfl⟩ : ∃ n, q = n + 1 := ⟨q - 1, by omega⟩
    simp +contextual -implicitDefEqProofs [L_spec_l3Cells, retK_eq, allC]
  | cons x r ih =>
    intro p q hq hl
    obtain ⟨q, rfl⟩ : ∃ n, q = n + 1 := ⟨q - 1, by omega⟩
    have h := ih (p ++ [x]) q (by simp at hq; omega) (by simpa using hl)
    simp at h
    have hx := ixa_mid eC (sz := 2) rfl .i64 p x r
    have hw := wrap_next (n := p.length) (by simp at hl; omega)
    simp +contextual -implicitDefEqProofs [L_spec_l3Cells, retK_eq, cutK_eq, hx, s_spec_l3Cell, hw, allC_cons, h]
    cases okC x <;> simp
theorem s_spec_l3Cells (l : List CellT) (hl : l.length < 1000000000) : X_spec_l3Cells [frS eC l] [] = some (.bool (allC l), []) := by
  have h := l_spec_l3Cells l [] QQ (by unfold QQ; omega) (by simpa using hl)
  simp at h
  simp +contextual -implicitDefEqProofs [X_spec_l3Cells, cutK_eq, h]
theorem s_GridFault_1 (x : CellT) : X_impl_GridFault_1 [celV x] [] = some (.bool (!okC x), []) := by
  simp +contextual -implicitDefEqProofs [X_impl_GridFault_1, s_impl_Cell_ok, retK_eq]
theorem l_IndexFunc (r : List CellT) : ∀ (p : List CellT) (q : Nat), r.length < q → (p ++ r).length < 1000000000 → ∃ n : Int, (allC r = true → n = -1) ∧ (allC r = false → 0 ≤ n) ∧ L_slices_IndexFunc_impl_Cell_impl_Cell 0 q 0 [frS eC (p ++ r), .func (.func 71) #[] #[], .int .i64 (p ++ r).length, .int .i64 p.length] [] = some (.int .i64 n, []) := by
  induction r with
  | nil =>
    intro p q hq hl
    obtain ⟨q, rfl⟩ : ∃ n, q = n + 1 := ⟨q - 1, by omega⟩
    refine ⟨-1, by simp, by simp [allC], ?_⟩
    simp +contextual -implicitDefEqProofs [L_slices_IndexFunc_impl_Cell_impl_Cell, retK_eq]
  | cons x r ih =>
    intro p q hq hl
    obtain ⟨q, rfl⟩ : ∃ n, q = n + 1 := ⟨q - 1, by omega⟩
    obtain ⟨n, h1, h2, h⟩ := ih (p ++ [x]) q (by simp at hq; omega) (by simpa using hl)
    simp at h
    have hx := ixa_mid eC (sz := 2) rfl .i64 p x r
    have hw := wrap_next (n := p.length) (by simp at hl; omega)
    refine ⟨if okC x = true then n else p.length, ?_, ?_, ?_⟩
    · simp only [allC_cons, Bool.and_eq_true]
      rintro ⟨h3, h4⟩
      simp [h3, h1 h4]
    · cases hx : okC x
      · simp
      · simp [allC_cons, hx]
        exact h2
    · simp +contextual -implicitDefEqProofs [L_slices_IndexFunc_impl_Cell_impl_Cell, cf_slices_IndexFunc_impl_Cell_impl_Cell, retK_eq, cutK_eq, hx, hw, h, s_GridFault_1]
      cases okC x <;> simp
theorem s_ContainsFunc (l : List CellT) (hl : l.length < 1000000000) : X_slices_ContainsFunc_impl_Cell_impl_Cell [frS eC l, .func (.func 71) #[] #[]] [] = some (.bool (!allC l), []) := by
  obtain ⟨n, h1, h2, h⟩ := l_IndexFunc l [] QQ (by unfold QQ; omega) (by simpa using hl)
  simp at h
  simp +contextual -implicitDefEqProofs [X_slices_ContainsFunc_impl_Cell_impl_Cell, X_slices_IndexFunc_impl_Cell_impl_Cell, cutK_eq, retK_eq, h]
  cases ha : allC l
  · simp [h2 ha]
  · simp [h1 ha]
def formG (g : GridT) : Bool := decide ((g.cs.length : Int) = g.r * g.w) && (decide ((g.bk.length : Int) ≤ 5 * g.w) && decide (Int.tmod g.bk.length g.w = 0))
def faultG (g : GridT) : Int := if szB g.r g.w = true then (if formG g = true then (if (allC g.cs && allC g.bk) = true then 0 else 3) else 1) else 3
theorem mul_le {r w a b : Int} (h1 : 0 ≤ r) (h2 : r ≤ a) (h3 : 0 ≤ w) (h4 : w ≤ b) : 0 ≤ r * w ∧ r * w ≤ a * b := ⟨Int.mul_nonneg h1 h3, Int.mul_le_mul h2 h4 h3 (by omega)⟩
theorem s_spec_l3Fault (g : GridT) (hg : g.small) (rest : List Value) : X_spec_l3Fault [gridP g rest] [] = some (.int .i64 (faultG g), []) := by
  cases hs : szB g.r g.w
  · simp +contextual -implicitDefEqProofs [X_spec_l3Fault, retK_eq, s_spec_l3Size, hs, faultG]
  · have hb := szB_b hs
    have hm := mul_le (r := g.r) (w := g.w) (a := 6) (b := 12) (by omega) (by omega) (by omega) (by omega)
    have hw : IntKind.i64.wrap (g.r * g.w) = g.r * g.w := wrap_i64 (by omega) (by omega)
    have hw2 : IntKind.i64.wrap (5 * g.w) = 5 * g.w := wrap_i64 (by omega) (by omega)
    have h0 : g.w ≠ 0 := by omega
    have c1 := s_spec_l3Cells g.cs hg.1
    have c2 := s_spec_l3Cells g.bk hg.2
    by_cases h1 : (g.cs.length : Int) = g.r * g.w
    · rcases Int.lt_or_le (5 * g.w) g.bk.length with h2 | h2
      · have h2' : ¬ (g.bk.length : Int) ≤ 5 * g.w := by omega
        simp -implicitDefEqProofs [X_spec_l3Fault, retK_eq, s_spec_l3Size, hs, hw, hw2, h1, h2, h2', faultG, formG]
      · have h2' : ¬ (5 * g.w < g.bk.length) := by omega
        by_cases h3 : Int.tmod g.bk.length g.w = 0
        · simp -implicitDefEqProofs [X_spec_l3Fault, retK_eq, s_spec_l3Size, hs, c1, c2, hw, hw2, h0, h1, h2, h2', h3, faultG, formG]
          cases allC g.cs <;> cases allC g.bk <;> simp
        · simp -implicitDefEqProofs [X_spec_l3Fault, retK_eq, s_spec_l3Size, hs, hw, hw2, h0, h1, h2, h2', h3, faultG, formG]
    · simp -implicitDefEqProofs [X_spec_l3Fault, retK_eq, s_spec_l3Size, hs, hw, hw2, h1, faultG, formG]
theorem s_impl_GridFault (g : GridT) (hg : g.small) : X_impl_GridFault [gridV g] [] = some (.int .i64 (faultG g), []) := by
  cases hs : szB g.r g.w
  · simp +contextual -implicitDefEqProofs [X_impl_GridFault, retK_eq, s_impl_sizeOk, hs, faultG]
  · have hb := szB_b hs
    have hm := mul_le (r := g.r) (w := g.w) (a := 6) (b := 12) (by omega) (by omega) (by omega) (by omega)
    have hw : IntKind.i64.wrap (g.r * g.w) = g.r * g.w := wrap_i64 (by omega) (by omega)
    have hw2 : IntKind.i64.wrap (5 * g.w) = 5 * g.w := wrap_i64 (by omega) (by omega)
    have h0 : g.w ≠ 0 := by omega
    have c1 := s_ContainsFunc g.cs hg.1
    have c2 := s_ContainsFunc g.bk hg.2
    by_cases h1 : (g.cs.length : Int) = g.r * g.w
    · rcases Int.lt_or_le (5 * g.w) g.bk.length with h2 | h2
      · have h2' : ¬ (g.bk.length : Int) ≤ 5 * g.w := by omega
        simp -implicitDefEqProofs [X_impl_GridFault, retK_eq, s_impl_sizeOk, hs, hw, hw2, h1, h2, h2', faultG, formG]
      · have h2' : ¬ (5 * g.w < g.bk.length) := by omega
        by_cases h3 : Int.tmod g.bk.length g.w = 0
        · cases ha : allC g.cs <;> cases hb : allC g.bk <;> simp -implicitDefEqProofs [X_impl_GridFault, retK_eq, s_impl_sizeOk, hs, c1, c2, hw, hw2, h0, h1, h2, h2', h3, faultG, formG, s_impl_unless, ha, hb, unl]
        · simp -implicitDefEqProofs [X_impl_GridFault, retK_eq, s_impl_sizeOk, hs, hw, hw2, h0, h1, h2, h2', h3, faultG, formG]
    · simp -implicitDefEqProofs [X_impl_GridFault, retK_eq, s_impl_sizeOk, hs, hw, hw2, h1, faultG, formG]
theorem szB_of {g : GridT} (h : faultG g = 0) : szB g.r g.w = true := by
  unfold faultG at h
  split at h
  · assumption
  · cases h
end Go.Ab
namespace Go.Ab
set_option maxHeartbeats 4000000
def plB (r w x y : Int) : Bool := inB x 0 (IntKind.i64.wrap (r - 1)) && inB y 0 (IntKind.i64.wrap (w - 1))
theorem s_impl_Grid_isPlace (g : GridT) (x y : Int) : X_impl_Grid_isPlace [gridV g, .int .i64 x, .int .i64 y] [] = some (.bool (plB g.r g.w x y), []) := by
  simp +contextual -implicitDefEqProofs [X_impl_Grid_isPlace, retK_eq, s_impl_in]
  unfold plB
  cases inB x 0 (IntKind.i64.wrap (g.r - 1)) <;> simp
theorem s_spec_l3Place (g : GridT) (x y : Int) (rest : List Value) : X_spec_l3Place [gridP g rest, .int .i64 x, .int .i64 y] [] = some (.bool (plB g.r g.w x y), []) := by
  simp +contextual -implicitDefEqProofs [X_spec_l3Place, retK_eq, s_spec_l1In]
  unfold plB
  cases inB x 0 (IntKind.i64.wrap (g.r - 1)) <;> simp
end Go.Ab
namespace Go.Ab
set_option maxHeartbeats 4000000
theorem s_eqCell (a b : CellT) : X_laws_eqCell [celV a, celV b] [] = some (.bool (a == b), []) := by
  simp +contextual -implicitDefEqProofs [X_laws_eqCell, retK_eq]
  obtain ⟨c, a⟩ := a
  obtain ⟨d, b⟩ := b
  by_cases h : c = d <;> by_cases h2 : a = b <;> simp [h, h2]
theorem s_toCell (a : CellT) : X_laws_toCell [celV a] [] = some (celV a, []) := by
  simp +contextual -implicitDefEqProofs [X_laws_toCell, retK_eq]
def szN (n : Nat) (left : Int) : Int := if left - n < 0 then -1 else left - n
theorem s_szCellS (l : List CellT) (left : Int) (hl : l.length ≤ 9223372036854775807) (h0 : 0 ≤ left) (h1 : left ≤ 1048576) : X_laws_szCellS [frS eC l, .int .i64 left] [] = some (.int .i64 (szN l.length left), []) := by
  have hw : IntKind.i64.wrap (left - l.length) = left - l.length := wrap_i64 (by omega) (by omega)
  simp +contextual -implicitDefEqProofs [X_laws_szCellS, retK_eq, hw]
  unfold szN
  split <;> rfl
theorem l_eqCellS (r : List CellT) : ∀ (p p' r' : List CellT) (q : Nat), p.length = p'.length → r.length = r'.length → r.length < q → (p ++ r).length < 1000000000 → L_laws_eqCellS 0 q 0 [frS eC (p ++ r), frS eC (p' ++ r'), .int .i64 p.length] [] = some (.bool (r == r'), []) := by
  induction r with
  | nil =>
    intro p p' r' q hp hr hq hl
    obtain ⟨q, rfl⟩ : ∃ n, q = n + 1 := ⟨q - 1, by omega⟩
    obtain rfl : r' = [] := List.eq_nil_of_length_eq_zero (by simpa using hr.symm)
    simp +contextual -implicitDefEqProofs [L_laws_eqCellS, retK_eq]
  | cons x r ih =>
    intro p p' r' q hp hr hq hl
    obtain ⟨q, rfl⟩ : ∃ n, q = n + 1 := ⟨q - 1, by omega⟩
    cases r' with
    | nil => simp at hr
    | cons x' r' =>
      have h := ih (p ++ [x]) (p' ++ [x']) r' q (by simp [hp]) (by simpa using hr) (by simp at hq; omega) (by simpa using hl)
      simp at h
      have hx := ixa_mid eC (sz := 2) rfl .i64 p x r
      have hx' := ixa_mid eC (sz := 2) rfl .i64 p' x' r'
      rw [← hp] at hx'
      have hw := wrap_next (n := p.length) (by simp at hl; omega)
      simp +contextual -implicitDefEqProofs [L_laws_eqCellS, retK_eq, cutK_eq, hx, hx', hw, h, s_eqCell]
      by_cases e : x = x' <;> simp [e]
theorem s_eqCellS (a b : List CellT) (ha : a.length < 1000000000) (hb : b.length < 1000000000) : X_laws_eqCellS [frS eC a, frS eC b] [] = some (.bool (a == b), []) := by
  by_cases h : a.length = b.length
  · have h2 := l_eqCellS a [] [] b QQ rfl h (by unfold QQ; omega) (by simpa using ha)
    simp at h2
    simp +contextual -implicitDefEqProofs [X_laws_eqCellS, cutK_eq, retK_eq, h, h2]
  · have h2 : ¬ (a.length : Int) = b.length := by omega
    have h3 : a ≠ b := fun e => h (by rw [e])
    simp +contextual -implicitDefEqProofs [X_laws_eqCellS, cutK_eq, retK_eq, h2, h3]
    trace_state
def GridT.szl (g : GridT) (left : Int) : Int := if szN g.cs.length left < 0 then -1 else if szN g.bk.length (szN g.cs.length left) < 0 then -1 else szN g.bk.length (szN g.cs.length left)
theorem s_szGrid (g : GridT) (left : Int) (h1 : g.cs.length ≤ 9223372036854775807) (h2 : g.bk.length ≤ 9223372036854775807) (h0 : 0 ≤ left) (h3 : left ≤ 1048576) : X_laws_szGrid [gridV g, .int .i64 left] [] = some (.int .i64 (g.szl left), []) := by
  have c1 := s_szCellS g.cs left h1 h0 h3
  by_cases h : szN g.cs.length left < 0
  · simp +contextual -implicitDefEqProofs [X_laws_szGrid, retK_eq, c1, h, GridT.szl]
  · have c2 := s_szCellS g.bk (szN g.cs.length left) h2 (by omega) (by unfold szN at *; split <;> omega)
    simp +contextual -implicitDefEqProofs [X_laws_szGrid, retK_eq, c1, c2, h, GridT.szl]
    split <;> rfl
end Go.Ab
namespace Go.Ab
set_option maxHeartbeats 4000000
@[simp] theorem shB_eC (N k : Nat) (l : List CellT) : shB N k (ownB eC l) = some (ownB eC l) := shB_own eC eC_hard N k l
@[simp] theorem lay_eC (p zs : List CellT) (z : CellT) (a b : Int) : lay (cellsE eC (p ++ z :: zs)) (p.length * 2) [.int .i64 a, .int .i64 b] = cellsE eC (p ++ ⟨a, b⟩ :: zs) := lay_mid eC p z zs ⟨a, b⟩
@[simp] theorem lay_eC1 (p zs : List CellT) (z : CellT) (a : Int) : lay (cellsE eC (p ++ z :: zs)) (p.length * 2) [.int .i64 a] = cellsE eC (p ++ ⟨a, z.a⟩ :: zs) := by
  have := lay_skip eC p (z :: zs) 0 [.int .i64 a]
  rw [Nat.add_zero] at this
  exact this.trans (by rw [cellsE_append]; rfl)
@[simp] theorem lay_eC2 (p zs : List CellT) (z : CellT) (a : Int) : lay (cellsE eC (p ++ z :: zs)) (p.length * 2 + 1) [.int .i64 a] = cellsE eC (p ++ ⟨z.c, a⟩ :: zs) := by
  have := lay_skip eC p (z :: zs) 1 [.int .i64 a]
  exact this.trans (by rw [cellsE_append, cellsE_cons, cellsE_cons, eC_f, eC_f]; simp [lay, lay_nil])
@[simp] theorem flat_eC (n : Nat) : (List.replicate n [Value.int .i64 0, Value.int .i64 0]).flatten = cellsE eC (List.replicate n ⟨0, 0⟩) := flat_rep eC n ⟨0, 0⟩
abbrev slO (n l : Nat) : Value := .slice (some ⟨n, 0, none⟩) l l
abbrev gridO (g : GridT) (a b : Nat) : Value := .agg #[.int .i64 g.r, .int .i64 g.w, slO a g.cs.length, slO b g.bk.length]
end Go.Ab
namespace Go.Ab
set_option maxHeartbeats 4000000
theorem l_toCellS (r : List CellT) : ∀ (p : List CellT) (q n : Nat), r.length < q → n = (p ++ r).length → n < 1000000000 → L_laws_toCellS 0 q 0 [frS eC (p ++ r), .slice (some ⟨0, 0, none⟩) n n, .int .i64 p.length] [ownB eC (p ++ List.replicate r.length ⟨0, 0⟩)] = some (.slice (some ⟨0, 0, none⟩) n n, [ownB eC (p ++ r)]) := by
  induction r with
  | nil =>
    intro p q n hq hn hl
    obtain ⟨q, rfl⟩ : ∃ n, q = n + 1 := ⟨q - 1, by omega⟩
    simp -implicitDefEqProofs [L_laws_toCellS, retK_eq]
  | cons x r ih =>
    intro p q n hq hn hl
    obtain ⟨q, rfl⟩ : ∃ n, q = n + 1 := ⟨q - 1, by omega⟩
    have h := ih (p ++ [x]) q n (by simp at hq; omega) (by simpa using hn) hl
    simp at h
    have hx := ixa_mid eC (sz := 2) rfl .i64 p x r
    have hw := wrap_next (n := p.length) (by simp at hn; omega)
    have hn' : n = p.length + (r.length + 1) := by simpa using hn
    subst hn'
    simp +contextual -implicitDefEqProofs [L_laws_toCellS, retK_eq, cutK_eq, hx, hw, h, s_toCell, List.replicate_succ]
    omega
theorem s_toCellS (l : List CellT) (hl : l.length < 1000000000) : X_laws_toCellS [frS eC l] [] = some (.slice (some ⟨0, 0, none⟩) l.length l.length, [ownB eC l]) := by
  have h := l_toCellS l [] QQ l.length (by unfold QQ; omega) rfl hl
  simp at h
  simp +contextual -implicitDefEqProofs [X_laws_toCellS, cutK_eq, retK_eq, h, hl]
theorem s_toGrid (g : GridT) (hg : g.small) : X_laws_toGrid [gridV g] [] = some (gridO g 0 1, [ownB eC g.cs, ownB eC g.bk]) := by
  have h1 := s_toCellS g.cs hg.1
  have h2 := s_toCellS g.bk hg.2
  simp +contextual -implicitDefEqProofs [X_laws_toGrid, cutK_eq, retK_eq, h1, h2]
end Go.Ab
namespace Go.Ab
set_option maxHeartbeats 4000000
abbrev eI6 : Enc Int := eI .i64
structure ScrT where
  g : GridT
  row : Int
  col : Int
  late : Bool
  attr : Int
  top : Int
  bot : Int
  org : Bool
  wrp : Bool
  ins : Bool
  tabs : List Bool
  sr : Int
  sc : Int
  sa : Int
  sets : List Int
  cs : Int
  lc : Int
abbrev scrT (s : ScrT) (a b c d : Value) (rest : List Value) : List Value := .int .i64 s.g.r :: .int .i64 s.g.w :: a :: b :: .int .i64 s.row :: .int .i64 s.col :: .bool s.late :: .int .i64 s.attr :: .int .i64 s.top :: .int .i64 s.bot :: .bool s.org :: .bool s.wrp :: .bool s.ins :: c :: .int .i64 s.sr :: .int .i64 s.sc :: .int .i64 s.sa :: d :: .int .i64 s.cs :: .int .i64 s.lc :: rest
abbrev scrL (s : ScrT) (a b c d : Value) : List Value := scrT s a b c d []
abbrev scrV (s : ScrT) : Value := .agg (scrL s (frS eC s.g.cs) (frS eC s.g.bk) (frS eB s.tabs) (frS eI6 s.sets)).toArray
abbrev scrP (s : ScrT) (rest : List Value) : Value := roP (scrT s (frS eC s.g.cs) (frS eC s.g.bk) (frS eB s.tabs) (frS eI6 s.sets) rest)
def ScrT.small (s : ScrT) : Prop := s.g.small ∧ s.tabs.length < 1000000000 ∧ s.sets.length < 1000000000
end Go.Ab
namespace Go.Ab
set_option maxHeartbeats 4000000
theorem s_spec_l3Attr (n : Int) : X_spec_l3Attr [.int .i64 n] [] = some (.bool (atB n), []) := by
  simp +contextual -implicitDefEqProofs [X_spec_l3Attr, s_spec_l1In, retK_eq, atB]
theorem s_spec_l2Table (x : Int) : X_spec_l2Table [.int .i64 x] [] = some (.bool (inB x 1 3), []) := by
  simp +contextual -implicitDefEqProofs [X_spec_l2Table, retK_eq, s_spec_l1In]
theorem s_impl_Screen_rangeOk_1 (x : Int) : X_impl_Screen_rangeOk_1 [.int .i64 x] [] = some (.bool (!inB x 1 3), []) := by
  simp +contextual -implicitDefEqProofs [X_impl_Screen_rangeOk_1, retK_eq, s_impl_in]
def allT (l : List Int) : Bool := l.all fun x => inB x 1 3
theorem allT_cons (x : Int) (l : List Int) : allT (x :: l) = (inB x 1 3 && allT l) := rfl
theorem l_IndexFuncI (r : List Int) : ∀ (p : List Int) (q : Nat), r.length < q → (p ++ r).length < 1000000000 → ∃ n : Int, (allT r = true → n = -1) ∧ (allT r = false → 0 ≤ n) ∧ L_slices_IndexFunc_int64_int64 0 q 0 [frS eI6 (p ++ r), .func (.func 75) #[] #[], .int .i64 (p ++ r).length, .int .i64 p.length] [] = some (.int .i64 n, []) := by
  induction r with
  | nil =>
    intro p q hq hl
    obtain ⟨q, rfl⟩ : ∃ n, q = n + 1 := ⟨q - 1, by omega⟩
    refine ⟨-1, by simp, by simp [allT], ?_⟩
    simp +contextual -implicitDefEqProofs [L_slices_IndexFunc_int64_int64, retK_eq]
  | cons x r ih =>
    intro p q hq hl
    obtain ⟨q, rfl⟩ : ∃ n, q = n + 1 := ⟨q - 1, by omega⟩
    obtain ⟨n, h1, h2, h⟩ := ih (p ++ [x]) q (by simp at hq; omega) (by simpa using hl)
    simp at h
    have hx := ixa_mid eI6 (sz := 1) rfl .i64 p x r
    have hw := wrap_next (n := p.length) (by simp at hl; omega)
    refine ⟨if inB x 1 3 = true then n else p.length, ?_, ?_, ?_⟩
    · simp only [allT_cons, Bool.and_eq_true]
      rintro ⟨h3, h4⟩
      simp [h3, h1 h4]
    · cases hx : inB x 1 3
      · simp
      · simp [allT_cons, hx]
        exact h2
    · simp +contextual -implicitDefEqProofs [L_slices_IndexFunc_int64_int64, cf_slices_IndexFunc_int64_int64, retK_eq, cutK_eq, hx, hw, h, s_impl_Screen_rangeOk_1]
      cases inB x 1 3 <;> simp
theorem s_ContainsFuncI (l : List Int) (hl : l.length < 1000000000) : X_slices_ContainsFunc_int64_int64 [frS eI6 l, .func (.func 75) #[] #[]] [] = some (.bool (!allT l), []) := by
  obtain ⟨n, h1, h2, h⟩ := l_IndexFuncI l [] QQ (by unfold QQ; omega) (by simpa using hl)
  simp at h
  simp +contextual -implicitDefEqProofs [X_slices_ContainsFunc_int64_int64, X_slices_IndexFunc_int64_int64, cutK_eq, retK_eq, h]
  cases ha : allT l
  · simp [h2 ha]
  · simp [h1 ha]
theorem s_impl_first (a b : Int) : X_impl_first [frS eI6 [a, b]] [] = some (.int .i64 (if a = 0 then b else a), []) := by
  have h1 : ∀ q, L_impl_first 0 (q + 1) 0 [frS eI6 [a, b], .int .i64 2, .int .i64 2] [] = some (.int .i64 0, []) := by
    intro q
    simp +contextual -implicitDefEqProofs [L_impl_first, retK_eq, cutK_eq]
  have h2 : ∀ q, L_impl_first 0 (q + 2) 0 [frS eI6 [a, b], .int .i64 2, .int .i64 1] [] = some (.int .i64 b, []) := by
    intro q
    have hx := ixa_mid eI6 (sz := 1) rfl .i64 [a] b []
    simp at hx
    simp +contextual -implicitDefEqProofs [L_impl_first, retK_eq, cutK_eq, h1, hx, wrap_i64]
  have h3 : L_impl_first 0 QQ 0 [frS eI6 [a, b], .int .i64 2, .int .i64 0] [] = some (.int .i64 (if a = 0 then b else a), []) := by
    obtain ⟨q, hq⟩ : ∃ n, QQ = n + 3 := ⟨QQ - 3, by unfold QQ; omega⟩
    have hx := ixa_mid eI6 (sz := 1) rfl .i64 [] a [b]
    simp at hx
    rw [hq]
    simp +contextual -implicitDefEqProofs [L_impl_first, retK_eq, cutK_eq, h2, hx, wrap_i64]
    split <;> rfl
  simp +contextual -implicitDefEqProofs [X_impl_first, retK_eq, cutK_eq, h3]
def setB (l : List Int) : Bool := decide (l.length = 2) && allT l
def rngS (s : ScrT) : Bool := plB s.g.r s.g.w s.row s.col && (atB s.attr && (inB s.sr 0 5 && (inB s.sc 0 11 && (atB s.sa && (setB s.sets && (inB s.cs 0 1 && inB s.lc 0 999))))))
theorem s_impl_Screen_rangeOk (s : ScrT) (hs : s.small) (rest : List Value) : X_impl_Screen_rangeOk [scrP s rest] [] = some (.bool (rngS s), []) := by
  have h2 : X_slices_ContainsFunc_int64_int64 [frS eI6 s.sets, .func (.func 75) #[] #[]] [] = some (.bool (!allT s.sets), []) := s_ContainsFuncI s.sets hs.2.2
  have hp := s_impl_Grid_isPlace s.g s.row s.col
  by_cases hl : s.sets.length = 2
  · have hl' : (s.sets.length : Int) = 2 := by omega
    simp (maxSteps := 2000000) +contextual -implicitDefEqProofs [X_impl_Screen_rangeOk, retK_eq, cutK_eq, s_impl_in, s_impl_isAttr, h2, hp, hl, hl', rngS, setB]
    cases plB s.g.r s.g.w s.row s.col <;> cases atB s.attr <;> cases inB s.sr 0 5 <;> cases inB s.sc 0 11 <;> cases atB s.sa <;> cases allT s.sets <;> cases inB s.cs 0 1 <;> simp
  · have hl' : ¬ (s.sets.length : Int) = 2 := by omega
    simp (maxSteps := 2000000) +contextual -implicitDefEqProofs [X_impl_Screen_rangeOk, retK_eq, cutK_eq, s_impl_in, s_impl_isAttr, h2, hp, hl, hl', rngS, setB]
theorem ixa_two (a b : Int) : ixaX 1 (frS eI6 [a, b]) (.int .i64 0) = some (roP [.int .i64 a]) ∧ ixaX 1 (frS eI6 [a, b]) (.int .i64 1) = some (roP [.int .i64 b]) := by
  have h1 := ixa_mid eI6 (sz := 1) rfl .i64 [] a [b]
  have h2 := ixa_mid eI6 (sz := 1) rfl .i64 [a] b []
  simp at h1 h2
  exact ⟨h1, h2⟩
theorem s_spec_l5Ranges (s : ScrT) (hs : s.small) (rest : List Value) : X_spec_l5Ranges [scrP s rest] [] = some (.bool (rngS s), []) := by
  have hp := s_spec_l3Place s.g s.row s.col
  by_cases hl : s.sets.length = 2
  · obtain ⟨a, b, h⟩ : ∃ a b, s.sets = [a, b] := by
      match hh : s.sets, hl with
      | [a, b], _ => exact ⟨a, b, rfl⟩
    have hx := ixa_two a b
    simp (maxSteps := 2000000) +contextual -implicitDefEqProofs [X_spec_l5Ranges, retK_eq, cutK_eq, s_spec_l1In, s_spec_l2Table, s_spec_l3Attr, hp, h, hx.1, hx.2, rngS, setB, allT]
    cases plB s.g.r s.g.w s.row s.col; · simp
    cases atB s.attr; · simp
    cases inB s.sr 0 5; · simp
    cases inB s.sc 0 11; · simp
    cases atB s.sa; · simp
    cases inB a 1 3; · simp
    cases inB b 1 3; · simp
    cases inB s.cs 0 1; · simp
    simp
  · have hl' : ¬ (s.sets.length : Int) = 2 := by omega
    simp (maxSteps := 2000000) +contextual -implicitDefEqProofs [X_spec_l5Ranges, retK_eq, cutK_eq, s_spec_l1In, s_spec_l2Table, s_spec_l3Attr, hp, hl, hl', rngS, setB]
def regB (a b r : Int) : Bool := decide (0 ≤ a ∧ b < r ∧ (a < b ∨ (a = 0 ∧ b = r - 1)))
theorem s_spec_l5Region (a b r : Int) (h1 : 1 ≤ r) (h2 : r ≤ 6) : X_spec_l5Region [.int .i64 a, .int .i64 b, .int .i64 r] [] = some (.bool (regB a b r), []) := by
  have hw : IntKind.i64.wrap (r - 1) = r - 1 := wrap_i64 (by omega) (by omega)
  have n3 : (a < 0) = ¬(0 ≤ a) := by simp
  have n4 : (b ≤ a) = ¬(a < b) := by simp
  have n5 : (r ≤ b) = ¬(b < r) := by simp
  rcases Classical.propComplete (0 ≤ a) with h3 | h3 <;> rcases Classical.propComplete (a < b) with h4 | h4 <;> rcases Classical.propComplete (b < r) with h5 | h5 <;> rcases Classical.propComplete (a = 0) with h6 | h6 <;> rcases Classical.propComplete (b = r - 1) with h7 | h7 <;>
    simp -implicitDefEqProofs [X_spec_l5Region, retK_eq, cutK_eq, hw, h3, h4, h5, h6, h7, n3, n4, n5, regB] <;> (simp only [eq_iff_iff, iff_true, iff_false] at h3 h4 h5 h6 h7; omega)
theorem s_impl_Screen_last (s : ScrT) (h1 : szB s.g.r s.g.w = true) (rest : List Value) : X_impl_Screen_last [scrP s rest] [] = some (.tuple #[.int .i64 (s.g.r - 1), .int .i64 (s.g.w - 1)], []) := by
  have hb := szB_b h1
  have hw : IntKind.i64.wrap (s.g.r - 1) = s.g.r - 1 := wrap_i64 (by omega) (by omega)
  have hw2 : IntKind.i64.wrap (s.g.w - 1) = s.g.w - 1 := wrap_i64 (by omega) (by omega)
  simp +contextual -implicitDefEqProofs [X_impl_Screen_last, retK_eq, cutK_eq, hw, hw2]
theorem s_impl_Screen_isRegion (s : ScrT) (a b : Int) (h1 : szB s.g.r s.g.w = true) (rest : List Value) : X_impl_Screen_isRegion [scrP s rest, .int .i64 a, .int .i64 b] [] = some (.bool (regB a b s.g.r), []) := by
  have hl := s_impl_Screen_last s h1
  have n3 : (a < 0) = ¬(0 ≤ a) := by simp
  have n4 : (b ≤ a) = ¬(a < b) := by simp
  have n5 : (s.g.r - 1 < b) = ¬(b < s.g.r) := by simp; omega
  have n6 : (b ≤ s.g.r - 1) = (b < s.g.r) := by simp; omega
  rcases Classical.propComplete (0 ≤ a) with h3 | h3 <;> rcases Classical.propComplete (a < b) with h4 | h4 <;> rcases Classical.propComplete (b < s.g.r) with h5 | h5 <;> rcases Classical.propComplete (a = 0) with h6 | h6 <;> rcases Classical.propComplete (b = s.g.r - 1) with h7 | h7 <;>
    simp -implicitDefEqProofs [X_impl_Screen_isRegion, retK_eq, cutK_eq, hl, h3, h4, h5, h6, h7, n3, n4, n5, n6, regB] <;> (simp only [eq_iff_iff, iff_true, iff_false] at h3 h4 h5 h6 h7; omega)
theorem s_impl_Screen_inRegion (s : ScrT) (rest : List Value) : X_impl_Screen_inRegion [scrP s rest] [] = some (.bool (inB s.row s.top s.bot), []) := by
  simp +contextual -implicitDefEqProofs [X_impl_Screen_inRegion, retK_eq, cutK_eq, s_impl_in]
def frmS (s : ScrT) : Bool := regB s.top s.bot s.g.r && (decide ((s.tabs.length : Int) = s.g.w) && ((!s.late || (decide (s.col = s.g.w - 1) && s.wrp)) && (!s.org || inB s.row s.top s.bot)))
theorem s_impl_Screen_formOk (s : ScrT) (h1 : szB s.g.r s.g.w = true) (rest : List Value) : X_impl_Screen_formOk [scrP s rest] [] = some (.bool (frmS s), []) := by
  have hl := s_impl_Screen_last s h1
  have hr := s_impl_Screen_isRegion s s.top s.bot h1
  have hi := s_impl_Screen_inRegion s
  by_cases h3 : (s.tabs.length : Int) = s.g.w <;> by_cases h4 : s.col = s.g.w - 1 <;> cases h5 : s.late <;> cases h6 : s.org <;> cases h7 : s.wrp <;>
    (simp (maxSteps := 2000000) +contextual -implicitDefEqProofs [X_impl_Screen_formOk, retK_eq, cutK_eq, hl, hr, hi, h3, h4, h5, h6, h7, frmS] <;> cases regB s.top s.bot s.g.r <;> simp)
theorem s_spec_l5Form (s : ScrT) (h1 : szB s.g.r s.g.w = true) (rest : List Value) : X_spec_l5Form [scrP s rest] [] = some (.bool (frmS s), []) := by
  have hb := szB_b h1
  have hr := s_spec_l5Region s.top s.bot s.g.r (by omega) (by omega)
  have hw2 : IntKind.i64.wrap (s.g.w - 1) = s.g.w - 1 := wrap_i64 (by omega) (by omega)
  by_cases h3 : (s.tabs.length : Int) = s.g.w <;> by_cases h4 : s.col = s.g.w - 1 <;> cases h5 : s.late <;> cases h6 : s.org <;> cases h7 : s.wrp <;>
    (simp (maxSteps := 2000000) +contextual -implicitDefEqProofs [X_spec_l5Form, retK_eq, cutK_eq, s_spec_l1In, hr, hw2, h3, h4, h5, h6, h7, frmS] <;> cases regB s.top s.bot s.g.r <;> simp)
def faultS (s : ScrT) : Int := if faultG s.g = 0 then (if rngS s = true then (if frmS s = true then 0 else 1) else 3) else faultG s.g
theorem s_spec_l5Fault (s : ScrT) (hs : s.small) (rest : List Value) : X_spec_l5Fault [scrP s rest] [] = some (.int .i64 (faultS s), []) := by
  have h1 := s_spec_l3Fault s.g hs.1
  have h2 := s_spec_l5Ranges s hs
  by_cases h : faultG s.g = 0
  · have h3 := s_spec_l5Form s (szB_of h)
    cases h4 : rngS s <;> cases h5 : frmS s <;> simp +contextual -implicitDefEqProofs [X_spec_l5Fault, retK_eq, h, h1, h2, h3, h4, h5, faultS]
  · simp +contextual -implicitDefEqProofs [X_spec_l5Fault, retK_eq, h1, h2, h, faultS]
@[simp] theorem fz_twoI (k : Nat) (m : Mem) (a b : Int) : fzO (k + 1) m (some ⟨[.int .i64 a, .int .i64 b], 1, true, true⟩) 0 2 = some (frS eI6 [a, b]) := fzO_own eI6 k m [a, b]
theorem s_impl_ScreenFault (s : ScrT) (hs : s.small) : X_impl_ScreenFault [scrV s] [] = some (.int .i64 (faultS s), []) := by
  have h1 := s_impl_GridFault s.g hs.1
  have h2 := s_impl_Screen_rangeOk s hs
  have h0 := fun a b => s_impl_first a b
  by_cases h : faultG s.g = 0
  · have h3 := s_impl_Screen_formOk s (szB_of h)
    cases h4 : rngS s <;> cases h5 : frmS s <;> simp (maxSteps := 2000000) +contextual -implicitDefEqProofs [X_impl_ScreenFault, retK_eq, h, h0, h1, h2, h3, h4, h5, faultS, s_impl_unless, unl]
  · simp (maxSteps := 2000000) +contextual -implicitDefEqProofs [X_impl_ScreenFault, retK_eq, h0, h1, h2, h, faultS, s_impl_unless]
end Go.Ab
namespace Go.Ab
set_option maxHeartbeats 4000000
theorem szN_le {n : Nat} {x : Int} (h : x ≤ 1048576) : szN n x ≤ 1048576 := by unfold szN; split <;> omega
theorem szl_le {g : GridT} {x : Int} (h : x ≤ 1048576) : g.szl x ≤ 1048576 := by
  unfold GridT.szl
  have := szN_le (n := g.bk.length) (szN_le (n := g.cs.length) h)
  split
  · omega
  · split <;> omega
def GridT.fit (g : GridT) : Prop := g.cs.length ≤ 9223372036854775807 ∧ g.bk.length ≤ 9223372036854775807
theorem szN_small {n : Nat} {x : Int} (hx : x ≤ 1048576) (h : 0 ≤ szN n x) : n < 1000000000 := by
  unfold szN at h; split at h <;> omega
theorem szl_small {g : GridT} {x : Int} (hx : x ≤ 1048576) (h : ¬ g.szl x < 0) : g.small := by
  unfold GridT.szl at h
  split at h
  · omega
  · rename_i h1
    split at h
    · omega
    · rename_i h2
      exact ⟨szN_small (x := x) hx (by omega), szN_small (x := szN g.cs.length x) (szN_le hx) (by omega)⟩
end Go.Ab
namespace Go.Ab
set_option maxHeartbeats 4000000
theorem l_toBoolS (r : List Bool) : ∀ (p : List Bool) (q n : Nat), r.length < q → n = (p ++ r).length → n < 1000000000 → L_laws_toBoolS 0 q 0 [frS eB (p ++ r), .slice (some ⟨0, 0, none⟩) n n, .int .i64 p.length] [ownB eB (p ++ List.replicate r.length false)] = some (.slice (some ⟨0, 0, none⟩) n n, [ownB eB (p ++ r)]) := by
  induction r with
  | nil =>
    intro p q n hq hn hl
    obtain ⟨q, rfl⟩ : ∃ n, q = n + 1 := ⟨q - 1, by omega⟩
    simp -implicitDefEqProofs [L_laws_toBoolS, retK_eq]
  | cons x r ih =>
    intro p q n hq hn hl
    obtain ⟨q, rfl⟩ : ∃ n, q = n + 1 := ⟨q - 1, by omega⟩
    have h := ih (p ++ [x]) q n (by simp at hq; omega) (by simpa using hn) hl
    simp at h
    have hx := ixa_mid eB (sz := 1) rfl .i64 p x r
    have hw := wrap_next (n := p.length) (by simp at hn; omega)
    have hn' : n = p.length + (r.length + 1) := by simpa using hn
    subst hn'
    have hy := lay_mid eB p false (List.replicate r.length false) x
    simp at hy
    simp +contextual -implicitDefEqProofs [L_laws_toBoolS, retK_eq, cutK_eq, hx, hw, h, List.replicate_succ, hy]
@[simp] theorem shB_eB (N k : Nat) (l : List Bool) : shB N k (ownB eB l) = some (ownB eB l) := shB_own eB eB_hard N k l
@[simp] theorem shB_eI (q : IntKind) (N k : Nat) (l : List Int) : shB N k (ownB (eI q) l) = some (ownB (eI q) l) := shB_own (eI q) (eI_hard q) N k l
@[simp] theorem mk_eB (n : Nat) : (⟨List.replicate n (Value.bool false), 1, true, true⟩ : Blk) = ownB eB (List.replicate n false) := by
  have := flat_rep eB n false
  simp at this
  rw [this]; rfl
@[simp] theorem mk_eI (q : IntKind) (n : Nat) : (⟨List.replicate n (Value.int q 0), 1, true, true⟩ : Blk) = ownB (eI q) (List.replicate n 0) := by
  have := flat_rep (eI q) n 0
  simp at this
  rw [this]; rfl
theorem s_toBoolS (l : List Bool) (hl : l.length < 1000000000) : X_laws_toBoolS [frS eB l] [] = some (slO 0 l.length, [ownB eB l]) := by
  have h := l_toBoolS l [] QQ l.length (by unfold QQ; omega) rfl hl
  simp at h
  simp +contextual -implicitDefEqProofs [X_laws_toBoolS, cutK_eq, retK_eq, h, hl]
theorem l_toInt64S (r : List Int) : ∀ (p : List Int) (q n : Nat), r.length < q → n = (p ++ r).length → n < 1000000000 → L_laws_toInt64S 0 q 0 [frS eI6 (p ++ r), .slice (some ⟨0, 0, none⟩) n n, .int .i64 p.length] [ownB eI6 (p ++ List.replicate r.length 0)] = some (.slice (some ⟨0, 0, none⟩) n n, [ownB eI6 (p ++ r)]) := by
  induction r with
  | nil =>
    intro p q n hq hn hl
    obtain ⟨q, rfl⟩ : ∃ n, q = n + 1 := ⟨q - 1, by omega⟩
    simp -implicitDefEqProofs [L_laws_toInt64S, retK_eq]
  | cons x r ih =>
    intro p q n hq hn hl
    obtain ⟨q, rfl⟩ : ∃ n, q = n + 1 := ⟨q - 1, by omega⟩
    have h := ih (p ++ [x]) q n (by simp at hq; omega) (by simpa using hn) hl
    simp at h
    have hx := ixa_mid eI6 (sz := 1) rfl .i64 p x r
    have hw := wrap_next (n := p.length) (by simp at hn; omega)
    have hn' : n = p.length + (r.length + 1) := by simpa using hn
    subst hn'
    have hy := lay_mid eI6 p 0 (List.replicate r.length 0) x
    simp at hy
    simp +contextual -implicitDefEqProofs [L_laws_toInt64S, retK_eq, cutK_eq, hx, hw, h, List.replicate_succ, hy]
theorem s_toInt64S (l : List Int) (hl : l.length < 1000000000) : X_laws_toInt64S [frS eI6 l] [] = some (slO 0 l.length, [ownB eI6 l]) := by
  have h := l_toInt64S l [] QQ l.length (by unfold QQ; omega) rfl hl
  simp at h
  simp +contextual -implicitDefEqProofs [X_laws_toInt64S, cutK_eq, retK_eq, h, hl]
abbrev scrO (s : ScrT) (a b c d : Nat) : Value := .agg (scrL s (slO a s.g.cs.length) (slO b s.g.bk.length) (slO c s.tabs.length) (slO d s.sets.length)).toArray
theorem s_toScreen (s : ScrT) (hs : s.small) : X_laws_toScreen [scrV s] [] = some (scrO s 0 1 2 3, [ownB eC s.g.cs, ownB eC s.g.bk, ownB eB s.tabs, ownB eI6 s.sets]) := by
  have h1 := s_toGrid s.g hs.1
  have h2 := s_toBoolS s.tabs hs.2.1
  have h3 := s_toInt64S s.sets hs.2.2
  simp (maxSteps := 2000000) +contextual -implicitDefEqProofs [X_laws_toScreen, cutK_eq, retK_eq, h1, h2, h3]
theorem s_szBoolS (l : List Bool) (left : Int) (hl : l.length ≤ 9223372036854775807) (h0 : 0 ≤ left) (h1 : left ≤ 1048576) : X_laws_szBoolS [frS eB l, .int .i64 left] [] = some (.int .i64 (szN l.length left), []) := by
  have hw : IntKind.i64.wrap (left - l.length) = left - l.length := wrap_i64 (by omega) (by omega)
  simp +contextual -implicitDefEqProofs [X_laws_szBoolS, retK_eq, hw]
  unfold szN
  split <;> rfl
theorem s_szInt64S (l : List Int) (left : Int) (hl : l.length ≤ 9223372036854775807) (h0 : 0 ≤ left) (h1 : left ≤ 1048576) : X_laws_szInt64S [frS eI6 l, .int .i64 left] [] = some (.int .i64 (szN l.length left), []) := by
  have hw : IntKind.i64.wrap (left - l.length) = left - l.length := wrap_i64 (by omega) (by omega)
  simp +contextual -implicitDefEqProofs [X_laws_szInt64S, retK_eq, hw]
  unfold szN
  split <;> rfl
def ScrT.szl (s : ScrT) (left : Int) : Int := if s.g.szl left < 0 then -1 else if szN s.tabs.length (s.g.szl left) < 0 then -1 else if szN s.sets.length (szN s.tabs.length (s.g.szl left)) < 0 then -1 else szN s.sets.length (szN s.tabs.length (s.g.szl left))
def ScrT.fit (s : ScrT) : Prop := s.g.fit ∧ s.tabs.length ≤ 9223372036854775807 ∧ s.sets.length ≤ 9223372036854775807
theorem s_szScreen (s : ScrT) (left : Int) (hs : s.fit) (h0 : 0 ≤ left) (h1 : left ≤ 1048576) : X_laws_szScreen [scrV s, .int .i64 left] [] = some (.int .i64 (s.szl left), []) := by
  have c1 := s_szGrid s.g left hs.1.1 hs.1.2 h0 h1
  have b1 := szl_le (g := s.g) h1
  by_cases e1 : s.g.szl left < 0
  · simp +contextual -implicitDefEqProofs [X_laws_szScreen, retK_eq, c1, e1, ScrT.szl]
  · have c2 := s_szBoolS s.tabs (s.g.szl left) hs.2.1 (by omega) b1
    have b2 := szN_le (n := s.tabs.length) b1
    by_cases e2 : szN s.tabs.length (s.g.szl left) < 0
    · simp +contextual -implicitDefEqProofs [X_laws_szScreen, retK_eq, c1, c2, e1, e2, ScrT.szl]
    · have c3 := s_szInt64S s.sets _ hs.2.2 (by omega) b2
      by_cases e3 : szN s.sets.length (szN s.tabs.length (s.g.szl left)) < 0 <;> simp +contextual -implicitDefEqProofs [X_laws_szScreen, retK_eq, c1, c2, c3, e1, e2, e3, ScrT.szl]
theorem szs_small {s : ScrT} {x : Int} (hx : x ≤ 1048576) (h : ¬ s.szl x < 0) : s.small := by
  unfold ScrT.szl at h
  split at h
  · omega
  · rename_i h1
    split at h
    · omega
    · rename_i h2
      split at h
      · omega
      · rename_i h3
        exact ⟨szl_small hx h1, szN_small (x := s.g.szl x) (szl_le hx) (by omega), szN_small (x := szN s.tabs.length (s.g.szl x)) (szN_le (szl_le hx)) (by omega)⟩
theorem l_eqBoolS (r : List Bool) : ∀ (p : List Bool) (q : Nat), r.length < q → (p ++ r).length < 1000000000 → L_laws_eqBoolS 0 q 0 [frS eB (p ++ r), frS eB (p ++ r), .int .i64 p.length] [] = some (.bool true, []) := by
  induction r with
  | nil =>
    intro p q hq hl
    obtain ⟨q, rfl⟩ : ∃ n, q = n + 1 := ⟨q - 1, by omega⟩
    simp +contextual -implicitDefEqProofs [L_laws_eqBoolS, retK_eq]
  | cons x r ih =>
    intro p q hq hl
    obtain ⟨q, rfl⟩ : ∃ n, q = n + 1 := ⟨q - 1, by omega⟩
    have h := ih (p ++ [x]) q (by simp at hq; omega) (by simpa using hl)
    simp at h
    have hx := ixa_mid eB (sz := 1) rfl .i64 p x r
    have hw := wrap_next (n := p.length) (by simp at hl; omega)
    simp +contextual -implicitDefEqProofs [L_laws_eqBoolS, retK_eq, cutK_eq, hx, hw, h]
theorem s_eqBoolS (a : List Bool) (ha : a.length < 1000000000) : X_laws_eqBoolS [frS eB a, frS eB a] [] = some (.bool true, []) := by
  have h2 := l_eqBoolS a [] QQ (by unfold QQ; omega) (by simpa using ha)
  simp at h2
  simp +contextual -implicitDefEqProofs [X_laws_eqBoolS, cutK_eq, retK_eq, h2]
theorem l_eqInt64S (r : List Int) : ∀ (p : List Int) (q : Nat), r.length < q → (p ++ r).length < 1000000000 → L_laws_eqInt64S 0 q 0 [frS eI6 (p ++ r), frS eI6 (p ++ r), .int .i64 p.length] [] = some (.bool true, []) := by
  induction r with
  | nil =>
    intro p q hq hl
    obtain ⟨q, rfl⟩ : ∃ n, q = n + 1 := ⟨q - 1, by omega⟩
    simp +contextual -implicitDefEqProofs [L_laws_eqInt64S, retK_eq]
  | cons x r ih =>
    intro p q hq hl
    obtain ⟨q, rfl⟩ : ∃ n, q = n + 1 := ⟨q - 1, by omega⟩
    have h := ih (p ++ [x]) q (by simp at hq; omega) (by simpa using hl)
    simp at h
    have hx := ixa_mid eI6 (sz := 1) rfl .i64 p x r
    have hw := wrap_next (n := p.length) (by simp at hl; omega)
    simp +contextual -implicitDefEqProofs [L_laws_eqInt64S, retK_eq, cutK_eq, hx, hw, h]
theorem s_eqInt64S (a : List Int) (ha : a.length < 1000000000) : X_laws_eqInt64S [frS eI6 a, frS eI6 a] [] = some (.bool true, []) := by
  have h2 := l_eqInt64S a [] QQ (by unfold QQ; omega) (by simpa using ha)
  simp at h2
  simp +contextual -implicitDefEqProofs [X_laws_eqInt64S, cutK_eq, retK_eq, h2]
theorem s_eqGrid (a : GridT) (ha : a.small) : X_laws_eqGrid [gridV a, gridV a] [] = some (.bool true, []) := by
  have h1 := s_eqCellS a.cs a.cs ha.1 ha.1
  have h2 := s_eqCellS a.bk a.bk ha.2 ha.2
  simp at h1 h2
  simp +contextual -implicitDefEqProofs [X_laws_eqGrid, cutK_eq, retK_eq, h1, h2]
theorem s_eqScreen (s : ScrT) (hs : s.small) : X_laws_eqScreen [scrV s, scrV s] [] = some (.bool true, []) := by
  have h1 := s_eqGrid s.g hs.1
  have h2 := s_eqBoolS s.tabs hs.2.1
  have h3 := s_eqInt64S s.sets hs.2.2
  simp (maxSteps := 2000000) +contextual -implicitDefEqProofs [X_laws_eqScreen, cutK_eq, retK_eq, h1, h2, h3]
end Go.Ab
namespace Go.Ab
set_option maxHeartbeats 4000000
structure DecT where
  l : Int
  o : Int
  v : Int
abbrev decV (d : DecT) : Value := .agg #[.int .i64 d.l, .int .i64 d.o, .int .i64 d.v]
abbrev decP (d : DecT) (rest : List Value) : Value := roP (.int .i64 d.l :: .int .i64 d.o :: .int .i64 d.v :: rest)
structure ParT where
  k : Int
  s : Int
  lead : Bool
  ns : List Int
abbrev parV (p : ParT) : Value := .agg #[.int .i64 p.k, .int .i64 p.s, .bool p.lead, frS eI6 p.ns]
abbrev parO (p : ParT) (a : Nat) : Value := .agg #[.int .i64 p.k, .int .i64 p.s, .bool p.lead, slO a p.ns.length]
abbrev parP (p : ParT) (rest : List Value) : Value := roP (.int .i64 p.k :: .int .i64 p.s :: .bool p.lead :: frS eI6 p.ns :: rest)
end Go.Ab
