/- What the functions of the program answer, for all arguments that the theorems name as conditions. -/
import Derived.Test.YtglkdfidjalkbaaS7G9a
import Derived.Test.YtglkdfidjalkbaaS7D1
namespace Go.Ab
set_option linter.unusedSimpArgs false
set_option linter.unusedVariables false
set_option maxHeartbeats 8000000

/-! ## Frozen answers, cells of grids -/
abbrev resF (k : Int) (g : GridT) : Value := .agg #[.int .i64 k, .int .i64 g.r, .int .i64 g.w, frS eC g.cs, frS eC g.bk]
def gNo : GridT := ⟨0, 0, [], []⟩
theorem fz_own' {n : Nat} {l : List CellT} (h : n = l.length) (k : Nat) (m : Mem) : fzO (k + 1) m (some (ownB eC l)) 0 n = some (frS eC l) := by subst h; exact fzO_own eC k m l
def lwC (g : GridT) (y x : Int) : CellT := if IntKind.i64.wrap (IntKind.i64.wrap (y * g.w) + x) < 0 ∨ (g.cs.length : Int) ≤ IntKind.i64.wrap (IntKind.i64.wrap (y * g.w) + x) then ⟨-1, 0⟩ else gt g.cs (IntKind.i64.wrap (IntKind.i64.wrap (y * g.w) + x)).toNat
theorem s_lwCell (g : GridT) (y x : Int) : X_laws_lwCell [gridV g, .int .i64 y, .int .i64 x] [] = some (celV (lwC g y x), []) := by
  unfold lwC
  generalize hi : IntKind.i64.wrap (IntKind.i64.wrap (y * g.w) + x) = i at *
  by_cases h0 : i < 0
  · simp -implicitDefEqProofs [X_laws_lwCell, retK_eq, hi, h0]
  · by_cases h1 : (g.cs.length : Int) ≤ i
    · simp -implicitDefEqProofs [X_laws_lwCell, retK_eq, hi, h0, h1]
    · have hx := ixa_frS eC (sz := 2) rfl .i64 (l := g.cs) (j := i) (by omega) (by omega)
      simp -implicitDefEqProofs [X_laws_lwCell, retK_eq, hi, h0, h1, hx]
theorem lwC_in (g : GridT) (i : Nat) (h : i < g.cs.length) (hs : g.cs.length < 1000000000) : lwC g 0 i = gt g.cs i := by
  have e : IntKind.i64.wrap (IntKind.i64.wrap (0 * g.w) + i) = i := by
    rw [Int.zero_mul, wrap_i64 (x := 0) (by omega) (by omega), Int.zero_add, wrap_i64 (by omega) (by omega)]
  unfold lwC
  rw [e, if_neg (by omega)]
  simp
theorem eq_cells (a b : CellT) : (a.c == b.c && (a.a == b.a && true)) = decide (a = b) := by
  rcases a with ⟨a1, a2⟩
  rcases b with ⟨b1, b2⟩
  by_cases h1 : a1 = b1 <;> by_cases h2 : a2 = b2 <;> simp [h1, h2]
end Go.Ab
