/- What the functions of the program answer, for all arguments that the theorems name as conditions. -/
import Derived.Test.YtelkckbbelillaaS5G0
namespace Go.Ab
set_option linter.unusedSimpArgs false
set_option linter.unusedVariables false
set_option maxHeartbeats 4000000

/-! ## Cells in blocks of one's own -/
@[simp] theorem shB_eC (N k : Nat) (l : List CellT) : shB N k (ownB eC l) = some (ownB eC l) := shB_own eC eC_hard N k l
@[simp] theorem lay_eC (p zs : List CellT) (z : CellT) (a b : Int) : lay (cellsE eC (p ++ z :: zs)) (p.length * 2) [.int .i64 a, .int .i64 b] = cellsE eC (p ++ ⟨a, b⟩ :: zs) := lay_mid eC p z zs ⟨a, b⟩
@[simp] theorem lay_eC1 (p zs : List CellT) (z : CellT) (a : Int) : lay (cellsE eC (p ++ z :: zs)) (p.length * 2) [.int .i64 a] = cellsE eC (p ++ ⟨a, z.a⟩ :: zs) := by
  have := lay_skip eC p (z :: zs) 0 [.int .i64 a]
  rw [Nat.add_zero] at this
  exact this.trans (by rw [cellsE_append]; rfl)
@[simp] theorem lay_eC2 (p zs : List CellT) (z : CellT) (a : Int) : lay (cellsE eC (p ++ z :: zs)) (p.length * 2 + 1) [.int .i64 a] = cellsE eC (p ++ ⟨z.c, a⟩ :: zs) := by
  have := lay_skip eC p (z :: zs) 1 [.int .i64 a]
  exact this.trans (by rw [cellsE_append, cellsE_cons, cellsE_cons, eC_f, eC_f]; simp [lay, lay_nil])
@[simp] theorem flat_eC (n : Nat) : (List.replicate n [Value.int .i64 0, Value.int .i64 0]).flatten = cellsE eC (List.replicate n ⟨0, 0⟩) := flat_rep eC n ⟨0, 0⟩

/-- A slice of a whole block. -/
abbrev slO (n l : Nat) : Value := .slice (some ⟨n, 0, none⟩) l l
abbrev gridO (g : GridT) (a b : Nat) : Value := .agg #[.int .i64 g.r, .int .i64 g.w, slO a g.cs.length, slO b g.bk.length]
end Go.Ab
