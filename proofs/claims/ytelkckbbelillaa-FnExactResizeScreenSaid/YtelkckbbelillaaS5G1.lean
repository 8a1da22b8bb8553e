/- What the functions of the program answer, for all arguments that the theorems name as conditions. -/
import Derived.Test.YtelkckbbelillaaS5G0
namespace Go.Ab
set_option linter.unusedSimpArgs false
set_option linter.unusedVariables false
set_option maxHeartbeats 4000000

def inB (x a b : Int) : Bool := decide (a ≤ x) && decide (x ≤ b)
theorem inB_iff {x a b : Int} : inB x a b = true ↔ a ≤ x ∧ x ≤ b := by simp [inB]
theorem s_impl_in (x a b : Int) : X_impl_in [.int .i64 x, .int .i64 a, .int .i64 b] [] = some (.bool (inB x a b), []) := by
  simp +contextual -implicitDefEqProofs [X_impl_in, retK_eq]
  by_cases h : a ≤ x <;> simp [h, inB]
theorem s_spec_l1In (x a b : Int) : X_spec_l1In [.int .i64 x, .int .i64 a, .int .i64 b] [] = some (.bool (inB x a b), []) := by
  simp +contextual -implicitDefEqProofs [X_spec_l1In, retK_eq]
  by_cases h : a ≤ x <;> simp [h, inB]
def chB (x : Int) : Bool := inB x 0 65535 && !inB x 55296 57343
theorem s_impl_isChar (x : Int) : X_impl_isChar [.int .i64 x] [] = some (.bool (chB x), []) := by
  simp +contextual -implicitDefEqProofs [X_impl_isChar, s_impl_in, retK_eq]
  unfold chB
  cases inB x 0 65535 <;> simp
theorem s_spec_l1Char (x : Int) : X_spec_l1Char [.int .i64 x] [] = some (.bool (chB x), []) := by
  simp +contextual -implicitDefEqProofs [X_spec_l1Char, s_spec_l1In, retK_eq]
  unfold chB
  by_cases h : inB x 0 55295 = true
  · have : inB x 0 65535 = true ∧ inB x 55296 57343 = false := by simp [inB] at h ⊢; omega
    simp [h, this]
  · by_cases h2 : inB x 57344 65535 = true
    · have : inB x 0 65535 = true ∧ inB x 55296 57343 = false := by simp [inB] at h h2 ⊢; omega
      simp [h, h2, this]
    · have : inB x 0 65535 = false ∨ inB x 55296 57343 = true := by simp [inB] at h h2 ⊢; omega
      simp [h, h2]
      intro h3
      rcases this with h4 | h4
      · rw [h3] at h4; cases h4
      · exact h4
def unl (t : Bool) (a : Int) : Int := if t = true then 0 else a
theorem s_impl_unless (t : Bool) (a : Int) : X_impl_unless [.bool t, .int .i64 a] [] = some (.int .i64 (unl t a), []) := by
  simp +contextual -implicitDefEqProofs [X_impl_unless, retK_eq]
  cases t <;> simp [unl]
def atB (n : Int) : Bool := inB n 0 31
theorem s_impl_isAttr (n : Int) : X_impl_isAttr [.int .i64 n] [] = some (.bool (atB n), []) := by
  simp +contextual -implicitDefEqProofs [X_impl_isAttr, s_impl_in, retK_eq, atB]
def shB' (c : Int) : Bool := chB c && (decide (32 ≤ c) && (c != 127))
theorem s_impl_shows (c : Int) : X_impl_shows [.int .i64 c] [] = some (.bool (shB' c), []) := by
  simp +contextual -implicitDefEqProofs [X_impl_shows, s_impl_isChar, retK_eq]
  unfold shB'
  cases chB c <;> by_cases h : 32 ≤ c <;> simp [h]
def okC (x : CellT) : Bool := shB' x.c && atB x.a
theorem s_impl_Cell_ok (x : CellT) : X_impl_Cell_ok [celV x] [] = some (.bool (okC x), []) := by
  simp +contextual -implicitDefEqProofs [X_impl_Cell_ok, s_impl_shows, s_impl_isAttr, retK_eq]
  unfold okC
  cases shB' x.c <;> simp
theorem s_spec_l3Cell (x : CellT) : X_spec_l3Cell [celP x] [] = some (.bool (okC x), []) := by
  simp +contextual -implicitDefEqProofs [X_spec_l3Cell, s_spec_l1Char, s_spec_l1In, retK_eq]
  unfold okC shB' atB
  cases chB x.c <;> by_cases h : 32 ≤ x.c <;> by_cases h2 : x.c = 127 <;> simp [h, h2]
def szB (r w : Int) : Bool := inB r 1 6 && inB w 2 12
theorem szB_b {r w : Int} (h : szB r w = true) : 1 ≤ r ∧ r ≤ 6 ∧ 2 ≤ w ∧ w ≤ 12 := by simp [szB, inB] at h; omega
theorem s_spec_l3Size (r w : Int) : X_spec_l3Size [.int .i64 r, .int .i64 w] [] = some (.bool (szB r w), []) := by
  simp +contextual -implicitDefEqProofs [X_spec_l3Size, retK_eq, s_spec_l1In, szB]
  cases inB r 1 6 <;> simp
theorem s_impl_sizeOk (r w : Int) : X_impl_sizeOk [.int .i64 r, .int .i64 w] [] = some (.bool (szB r w), []) := by
  simp +contextual -implicitDefEqProofs [X_impl_sizeOk, retK_eq, s_impl_in, szB]
  cases inB r 1 6 <;> simp
def allC (l : List CellT) : Bool := l.all okC
theorem allC_cons (x : CellT) (l : List CellT) : allC (x :: l) = (okC x && allC l) := rfl
theorem l_spec_l3Cells (r : List CellT) : ∀ (p : List CellT) (q : Nat), r.length < q → (p ++ r).length < 1000000000 → L_spec_l3Cells 0 q 0 [frS eC (p ++ r), .int .i64 p.length] [] = some (.bool (allC r), []) := by
  induction r with
  | nil =>
    intro p q hq hl
    obtain ⟨q, rfl⟩ : ∃ n, q = n + 1 := ⟨q - 1, by omega⟩
    simp +contextual -implicitDefEqProofs [L_spec_l3Cells, retK_eq, allC]
  | cons x r ih =>
    intro p q hq hl
    obtain ⟨q, rfl⟩ : ∃ n, q = n + 1 := ⟨q - 1, by omega⟩
    have h := ih (p ++ [x]) q (by simp at hq; omega) (by simpa using hl)
    simp at h
    have hx := ixa_mid eC (sz := 2) rfl .i64 p x r
    have hw := wrap_next (n := p.length) (by simp at hl; omega)
    simp +contextual -implicitDefEqProofs [L_spec_l3Cells, retK_eq, cutK_eq, hx, s_spec_l3Cell, hw, allC_cons, h]
    cases okC x <;> simp
theorem s_spec_l3Cells (l : List CellT) (hl : l.length < 1000000000) : X_spec_l3Cells [frS eC l] [] = some (.bool (allC l), []) := by
  have h := l_spec_l3Cells l [] QQ (by unfold QQ; omega) (by simpa using hl)
  simp at h
  simp +contextual -implicitDefEqProofs [X_spec_l3Cells, cutK_eq, h]
theorem s_GridFault_1 (x : CellT) : X_impl_GridFault_1 [celV x] [] = some (.bool (!okC x), []) := by
  simp +contextual -implicitDefEqProofs [X_impl_GridFault_1, s_impl_Cell_ok, retK_eq]
/-- Not all are so. -/
theorem l_IndexFunc (r : List CellT) : ∀ (p : List CellT) (q : Nat), r.length < q → (p ++ r).length < 1000000000 → ∃ n : Int, (allC r = true → n = -1) ∧ (allC r = false → 0 ≤ n) ∧ L_slices_IndexFunc_impl_Cell_impl_Cell 0 q 0 [frS eC (p ++ r), .func (.func 141) #[] #[], .int .i64 (p ++ r).length, .int .i64 p.length] [] = some (.int .i64 n, []) := by
  induction r with
  | nil =>
    intro p q hq hl
    obtain ⟨q, rfl⟩ : ∃ n, q = n + 1 := ⟨q - 1, by omega⟩
    refine ⟨-1, by simp, by simp [allC], ?_⟩
    simp +contextual -implicitDefEqProofs [L_slices_IndexFunc_impl_Cell_impl_Cell, retK_eq]
  | cons x r ih =>
    intro p q hq hl
    obtain ⟨q, rfl⟩ : ∃ n, q = n + 1 := ⟨q - 1, by omega⟩
    obtain ⟨n, h1, h2, h⟩ := ih (p ++ [x]) q (by simp at hq; omega) (by simpa using hl)
    simp at h
    have hx := ixa_mid eC (sz := 2) rfl .i64 p x r
    have hw := wrap_next (n := p.length) (by simp at hl; omega)
    refine ⟨if okC x = true then n else p.length, ?_, ?_, ?_⟩
    · simp only [allC_cons, Bool.and_eq_true]
      rintro ⟨h3, h4⟩
      simp [h3, h1 h4]
    · cases hx : okC x
      · simp
      · simp [allC_cons, hx]
        exact h2
    · simp +contextual -implicitDefEqProofs [L_slices_IndexFunc_impl_Cell_impl_Cell, cf_slices_IndexFunc_impl_Cell_impl_Cell, retK_eq, cutK_eq, hx, hw, h, s_GridFault_1]
      cases okC x <;> simp
theorem s_ContainsFunc (l : List CellT) (hl : l.length < 1000000000) : X_slices_ContainsFunc_impl_Cell_impl_Cell [frS eC l, .func (.func 141) #[] #[]] [] = some (.bool (!allC l), []) := by
  obtain ⟨n, h1, h2, h⟩ := l_IndexFunc l [] QQ (by unfold QQ; omega) (by simpa using hl)
  simp at h
  simp +contextual -implicitDefEqProofs [X_slices_ContainsFunc_impl_Cell_impl_Cell, X_slices_IndexFunc_impl_Cell_impl_Cell, cutK_eq, retK_eq, h]
  cases ha : allC l
  · simp [h2 ha]
  · simp [h1 ha]

/-! ### Faults of grids -/
def formG (g : GridT) : Bool := decide ((g.cs.length : Int) = g.r * g.w) && (decide ((g.bk.length : Int) ≤ 5 * g.w) && decide (Int.tmod g.bk.length g.w = 0))
def faultG (g : GridT) : Int := if szB g.r g.w = true then (if formG g = true then (if (allC g.cs && allC g.bk) = true then 0 else 3) else 1) else 3
theorem mul_le {r w a b : Int} (h1 : 0 ≤ r) (h2 : r ≤ a) (h3 : 0 ≤ w) (h4 : w ≤ b) : 0 ≤ r * w ∧ r * w ≤ a * b := ⟨Int.mul_nonneg h1 h3, Int.mul_le_mul h2 h4 h3 (by omega)⟩
theorem s_spec_l3Fault (g : GridT) (hg : g.small) (rest : List Value) : X_spec_l3Fault [gridP g rest] [] = some (.int .i64 (faultG g), []) := by
  cases hs : szB g.r g.w
  · simp +contextual -implicitDefEqProofs [X_spec_l3Fault, retK_eq, s_spec_l3Size, hs, faultG]
  · have hb := szB_b hs
    have hm := mul_le (r := g.r) (w := g.w) (a := 6) (b := 12) (by omega) (by omega) (by omega) (by omega)
    have hw : IntKind.i64.wrap (g.r * g.w) = g.r * g.w := wrap_i64 (by omega) (by omega)
    have hw2 : IntKind.i64.wrap (5 * g.w) = 5 * g.w := wrap_i64 (by omega) (by omega)
    have h0 : g.w ≠ 0 := by omega
    have c1 := s_spec_l3Cells g.cs hg.1
    have c2 := s_spec_l3Cells g.bk hg.2
    by_cases h1 : (g.cs.length : Int) = g.r * g.w
    · rcases Int.lt_or_le (5 * g.w) g.bk.length with h2 | h2
      · have h2' : ¬ (g.bk.length : Int) ≤ 5 * g.w := by omega
        simp -implicitDefEqProofs [X_spec_l3Fault, retK_eq, s_spec_l3Size, hs, hw, hw2, h1, h2, h2', faultG, formG]
      · have h2' : ¬ (5 * g.w < g.bk.length) := by omega
        by_cases h3 : Int.tmod g.bk.length g.w = 0
        · simp -implicitDefEqProofs [X_spec_l3Fault, retK_eq, s_spec_l3Size, hs, c1, c2, hw, hw2, h0, h1, h2, h2', h3, faultG, formG]
          cases allC g.cs <;> cases allC g.bk <;> simp
        · simp -implicitDefEqProofs [X_spec_l3Fault, retK_eq, s_spec_l3Size, hs, hw, hw2, h0, h1, h2, h2', h3, faultG, formG]
    · simp -implicitDefEqProofs [X_spec_l3Fault, retK_eq, s_spec_l3Size, hs, hw, hw2, h1, faultG, formG]
theorem s_impl_GridFault (g : GridT) (hg : g.small) : X_impl_GridFault [gridV g] [] = some (.int .i64 (faultG g), []) := by
  cases hs : szB g.r g.w
  · simp +contextual -implicitDefEqProofs [X_impl_GridFault, retK_eq, s_impl_sizeOk, hs, faultG]
  · have hb := szB_b hs
    have hm := mul_le (r := g.r) (w := g.w) (a := 6) (b := 12) (by omega) (by omega) (by omega) (by omega)
    have hw : IntKind.i64.wrap (g.r * g.w) = g.r * g.w := wrap_i64 (by omega) (by omega)
    have hw2 : IntKind.i64.wrap (5 * g.w) = 5 * g.w := wrap_i64 (by omega) (by omega)
    have h0 : g.w ≠ 0 := by omega
    have c1 := s_ContainsFunc g.cs hg.1
    have c2 := s_ContainsFunc g.bk hg.2
    by_cases h1 : (g.cs.length : Int) = g.r * g.w
    · rcases Int.lt_or_le (5 * g.w) g.bk.length with h2 | h2
      · have h2' : ¬ (g.bk.length : Int) ≤ 5 * g.w := by omega
        simp -implicitDefEqProofs [X_impl_GridFault, retK_eq, s_impl_sizeOk, hs, hw, hw2, h1, h2, h2', faultG, formG]
      · have h2' : ¬ (5 * g.w < g.bk.length) := by omega
        by_cases h3 : Int.tmod g.bk.length g.w = 0
        · cases ha : allC g.cs <;> cases hb : allC g.bk <;> simp -implicitDefEqProofs [X_impl_GridFault, retK_eq, s_impl_sizeOk, hs, c1, c2, hw, hw2, h0, h1, h2, h2', h3, faultG, formG, s_impl_unless, ha, hb, unl]
        · simp -implicitDefEqProofs [X_impl_GridFault, retK_eq, s_impl_sizeOk, hs, hw, hw2, h0, h1, h2, h2', h3, faultG, formG]
    · simp -implicitDefEqProofs [X_impl_GridFault, retK_eq, s_impl_sizeOk, hs, hw, hw2, h1, faultG, formG]
theorem szB_of {g : GridT} (h : faultG g = 0) : szB g.r g.w = true := by
  unfold faultG at h
  split at h
  · assumption
  · cases h
end Go.Ab
