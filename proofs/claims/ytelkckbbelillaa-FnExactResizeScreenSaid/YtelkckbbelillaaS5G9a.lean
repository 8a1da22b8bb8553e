/- What the functions of the program answer, for all arguments that the theorems name as conditions. -/
import Derived.Test.YtelkckbbelillaaS5G1
import Derived.Test.YtelkckbbelillaaS5G3a
namespace Go.Ab
set_option linter.unusedSimpArgs false
set_option linter.unusedVariables false
set_option maxHeartbeats 4000000

/-! ## Copies of grids -/
@[simp] theorem rn_hard_ro0 (k : Nat) (π : Nat → Option Nat) : rnV (k + 1) hard π (roS 0 []) = some (roS 0 []) := rnV_p rfl
@[simp] theorem hard_ro0 : hard (roS 0 []) = true := (rfl)
theorem s_impl_Grid_clone (g : GridT) (hg : g.small) (h1 : g.cs ≠ []) (h2 : g.bk ≠ []) : X_impl_Grid_clone [gridV g] [] = some (gridO g 0 1, [ownB eC g.cs, ownB eC g.bk]) := by
  have c1 := fun m => cloneV_frS eC eC_hard (sz := 2) rfl m g.cs h1 hg.1
  have c2 := fun m => cloneV_frS eC eC_hard (sz := 2) rfl m g.bk h2 hg.2
  simp +contextual -implicitDefEqProofs [X_impl_Grid_clone, retK_eq, c1, c2]
abbrev gridE (g : GridT) (a : Nat) : Value := .agg #[.int .i64 g.r, .int .i64 g.w, slO a g.cs.length, roS 0 []]
theorem s_impl_Grid_clone0 (g : GridT) (hg : g.small) (h1 : g.cs ≠ []) (h2 : g.bk = []) : X_impl_Grid_clone [gridV g] [] = some (gridE g 0, [ownB eC g.cs]) := by
  have c1 := fun m => cloneV_frS eC eC_hard (sz := 2) rfl m g.cs h1 hg.1
  simp +contextual -implicitDefEqProofs [X_impl_Grid_clone, retK_eq, c1, h2, frS_nil]
theorem lay_set {α : Type} (E : Enc α) (l : List α) (j : Nat) (x : α) (h : j < l.length) : lay (cellsE E l) (j * E.sz) (E.f x) = cellsE E (l.set j x) := by
  have e1 : l = l.take j ++ l[j] :: l.drop (j + 1) := by simp
  have e2 : l.set j x = l.take j ++ x :: l.drop (j + 1) := by rw [List.set_eq_take_append_cons_drop, if_pos h]
  have := lay_mid E (l.take j) l[j] (l.drop (j + 1)) x
  rw [← e1, ← e2, List.length_take, Nat.min_eq_left (by omega)] at this
  exact this
theorem lay_setC (l : List CellT) (j : Nat) (x : CellT) (h : j < l.length) : lay (cellsE eC l) (j * 2) [.int .i64 x.c, .int .i64 x.a] = cellsE eC (l.set j x) := lay_set eC l j x h

abbrev resZ (k : Int) : Value := .agg #[.int .i64 k, .int .i64 0, .int .i64 0, .slice none 0 0, .slice none 0 0]
abbrev resO (g : GridT) (a b : Nat) : Value := .agg #[.int .i64 0, .int .i64 g.r, .int .i64 g.w, slO a g.cs.length, slO b g.bk.length]
abbrev resE (g : GridT) (a : Nat) : Value := .agg #[.int .i64 0, .int .i64 g.r, .int .i64 g.w, slO a g.cs.length, roS 0 []]
abbrev ptr (n : Nat) : Value := .pointer (some ⟨n, 0, none⟩)
abbrev blk (l : List Value) : Blk := ⟨l, 0, true, true⟩
end Go.Ab
