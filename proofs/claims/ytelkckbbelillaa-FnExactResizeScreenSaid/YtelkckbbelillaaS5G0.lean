/- What the functions of the program answer, for all arguments that the theorems name as conditions. -/
import Derived.Test.YtelkckbbelillaaXFnExactResizeScreen
namespace Go.Ab
set_option linter.unusedSimpArgs false
set_option linter.unusedVariables false
set_option maxHeartbeats 4000000

/-! ## Cells and grids -/
structure CellT where
  c : Int
  a : Int
deriving Inhabited, DecidableEq
def eC : Enc CellT := ⟨2, fun x => [.int .i64 x.c, .int .i64 x.a], by decide, fun _ => rfl, fun _ => rfl⟩
@[simp] theorem eC_f (x : CellT) : eC.f x = [.int .i64 x.c, .int .i64 x.a] := (rfl)
@[simp] theorem eC_sz : eC.sz = 2 := (rfl)
theorem eC_hard : eC.Hard := fun _ => rfl
abbrev celV (x : CellT) : Value := .agg #[.int .i64 x.c, .int .i64 x.a]
abbrev celP (x : CellT) : Value := roP [.int .i64 x.c, .int .i64 x.a]
structure GridT where
  r : Int
  w : Int
  cs : List CellT
  bk : List CellT
abbrev gridV (g : GridT) : Value := .agg #[.int .i64 g.r, .int .i64 g.w, frS eC g.cs, frS eC g.bk]
abbrev gridP (g : GridT) (rest : List Value) : Value := roP (.int .i64 g.r :: .int .i64 g.w :: frS eC g.cs :: frS eC g.bk :: rest)

def GridT.small (g : GridT) : Prop := g.cs.length < 1000000000 ∧ g.bk.length < 1000000000
end Go.Ab
