/- What the functions of the program answer, for all arguments that the theorems name as conditions. -/
import Derived.Test.YtelkckbbelillaaS5G0
namespace Go.Ab
set_option linter.unusedSimpArgs false
set_option linter.unusedVariables false
set_option maxHeartbeats 4000000

/-! ## The laws' helpers over cells and grids -/
theorem s_eqCell (a b : CellT) : X_laws_eqCell [celV a, celV b] [] = some (.bool (a == b), []) := by
  simp +contextual -implicitDefEqProofs [X_laws_eqCell, retK_eq]
  obtain ⟨c, a⟩ := a
  obtain ⟨d, b⟩ := b
  by_cases h : c = d <;> by_cases h2 : a = b <;> simp [h, h2]
theorem s_toCell (a : CellT) : X_laws_toCell [celV a] [] = some (celV a, []) := by
  simp +contextual -implicitDefEqProofs [X_laws_toCell, retK_eq]
def szN (n : Nat) (left : Int) : Int := if left - n < 0 then -1 else left - n
theorem s_szCellS (l : List CellT) (left : Int) (hl : l.length ≤ 9223372036854775807) (h0 : 0 ≤ left) (h1 : left ≤ 1048576) : X_laws_szCellS [frS eC l, .int .i64 left] [] = some (.int .i64 (szN l.length left), []) := by
  have hw : IntKind.i64.wrap (left - l.length) = left - l.length := wrap_i64 (by omega) (by omega)
  simp +contextual -implicitDefEqProofs [X_laws_szCellS, retK_eq, hw]
  unfold szN
  split <;> rfl
theorem l_eqCellS (r : List CellT) : ∀ (p p' r' : List CellT) (q : Nat), p.length = p'.length → r.length = r'.length → r.length < q → (p ++ r).length < 1000000000 → L_laws_eqCellS 0 q 0 [frS eC (p ++ r), frS eC (p' ++ r'), .int .i64 p.length] [] = some (.bool (r == r'), []) := by
  induction r with
  | nil =>
    intro p p' r' q hp hr hq hl
    obtain ⟨q, rfl⟩ : ∃ n, q = n + 1 := ⟨q - 1, by omega⟩
    obtain rfl : r' = [] := List.eq_nil_of_length_eq_zero (by simpa using hr.symm)
    simp +contextual -implicitDefEqProofs [L_laws_eqCellS, retK_eq]
  | cons x r ih =>
    intro p p' r' q hp hr hq hl
    obtain ⟨q, rfl⟩ : ∃ n, q = n + 1 := ⟨q - 1, by omega⟩
    cases r' with
    | nil => simp at hr
    | cons x' r' =>
      have h := ih (p ++ [x]) (p' ++ [x']) r' q (by simp [hp]) (by simpa using hr) (by simp at hq; omega) (by simpa using hl)
      simp at h
      have hx := ixa_mid eC (sz := 2) rfl .i64 p x r
      have hx' := ixa_mid eC (sz := 2) rfl .i64 p' x' r'
      rw [← hp] at hx'
      have hw := wrap_next (n := p.length) (by simp at hl; omega)
      simp +contextual -implicitDefEqProofs [L_laws_eqCellS, retK_eq, cutK_eq, hx, hx', hw, h, s_eqCell]
      by_cases e : x = x' <;> simp [e]
theorem s_eqCellS (a b : List CellT) (ha : a.length < 1000000000) (hb : b.length < 1000000000) : X_laws_eqCellS [frS eC a, frS eC b] [] = some (.bool (a == b), []) := by
  by_cases h : a.length = b.length
  · have h2 := l_eqCellS a [] [] b QQ rfl h (by unfold QQ; omega) (by simpa using ha)
    simp at h2
    simp +contextual -implicitDefEqProofs [X_laws_eqCellS, cutK_eq, retK_eq, h, h2]
  · have h2 : ¬ (a.length : Int) = b.length := by omega
    have h3 : a ≠ b := fun e => h (by rw [e])
    simp +contextual -implicitDefEqProofs [X_laws_eqCellS, cutK_eq, retK_eq, h2, h3]
    trace_state
def GridT.szl (g : GridT) (left : Int) : Int := if szN g.cs.length left < 0 then -1 else if szN g.bk.length (szN g.cs.length left) < 0 then -1 else szN g.bk.length (szN g.cs.length left)
theorem s_szGrid (g : GridT) (left : Int) (h1 : g.cs.length ≤ 9223372036854775807) (h2 : g.bk.length ≤ 9223372036854775807) (h0 : 0 ≤ left) (h3 : left ≤ 1048576) : X_laws_szGrid [gridV g, .int .i64 left] [] = some (.int .i64 (g.szl left), []) := by
  have c1 := s_szCellS g.cs left h1 h0 h3
  by_cases h : szN g.cs.length left < 0
  · simp +contextual -implicitDefEqProofs [X_laws_szGrid, retK_eq, c1, h, GridT.szl]
  · have c2 := s_szCellS g.bk (szN g.cs.length left) h2 (by omega) (by unfold szN at *; split <;> omega)
    simp +contextual -implicitDefEqProofs [X_laws_szGrid, retK_eq, c1, c2, h, GridT.szl]
    split <;> rfl
end Go.Ab
