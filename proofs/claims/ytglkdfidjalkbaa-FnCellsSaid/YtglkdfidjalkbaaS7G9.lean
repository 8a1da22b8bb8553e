/- What the functions of the program answer, for all arguments that the theorems name as conditions. -/
import Derived.Test.YtglkdfidjalkbaaS7G9b
import Derived.Test.YtglkdfidjalkbaaS7G1b
import Derived.Test.YtglkdfidjalkbaaS7G9a
namespace Go.Ab
set_option linter.unusedSimpArgs false
set_option linter.unusedVariables false
set_option maxHeartbeats 4000000

/-! ### PutCell -/
def okPut (g : GridT) (x y : Int) (c : CellT) : Bool := plB g.r g.w x y && okC c
theorem place_facts {g : GridT} {x y : Int} (hf : faultG g = 0) (hp : plB g.r g.w x y = true) : IntKind.i64.wrap (x * g.w) = x * g.w ∧ IntKind.i64.wrap (x * g.w + y) = x * g.w + y ∧ 0 ≤ x * g.w + y ∧ x * g.w + y < g.cs.length ∧ g.cs ≠ [] := by
  have hs := szB_of hf
  have hb := szB_b hs
  have hl : (g.cs.length : Int) = g.r * g.w := by
    unfold faultG at hf
    rw [if_pos hs] at hf
    split at hf
    · rename_i hh
      unfold formG at hh
      simp at hh
      exact hh.1
    · cases hf
  have w1 : IntKind.i64.wrap (g.r - 1) = g.r - 1 := wrap_i64 (by omega) (by omega)
  have w2 : IntKind.i64.wrap (g.w - 1) = g.w - 1 := wrap_i64 (by omega) (by omega)
  simp [plB, w1, w2, inB] at hp
  have m1 := mul_le (r := x) (w := g.w) (a := 6) (b := 12) (by omega) (by omega) (by omega) (by omega)
  have m2 : (x + 1) * g.w ≤ g.r * g.w := Int.mul_le_mul_of_nonneg_right (by omega) (by omega)
  have m3 : (x + 1) * g.w = x * g.w + g.w := by rw [Int.add_mul, Int.one_mul]
  refine ⟨wrap_i64 (by omega) (by omega), wrap_i64 (by omega) (by omega), by omega, by omega, fun e => ?_⟩
  rw [e] at hl
  simp at hl
  omega
def putG (g : GridT) (x y : Int) (c : CellT) : GridT := ⟨g.r, g.w, g.cs.set (x * g.w + y).toNat c, g.bk⟩
theorem s_spec_PutCell (g : GridT) (x y : Int) (c : CellT) (hg : g.small) (hf : faultG g = 0) (ho : okPut g x y c = true) : X_spec_PutCell [gridV g, .int .i64 x, .int .i64 y, celV c] [] = some (resO (putG g x y c) 0 1, [ownB eC (putG g x y c).cs, ownB eC g.bk]) := by
  simp [okPut] at ho
  obtain ⟨w1, w2, f1, f2, _⟩ := place_facts hf ho.1
  have c1 := fun rest => s_spec_l3Fault g hg rest
  have c2 := fun rest => s_spec_l3Place g x y rest
  have c3 := s_spec_l3Cell c
  have c4 := s_spec_l3Copy g hg
  have hi := fun n o cc => ixa_sl (sz := 2) .i64 (n := n) (o := o) (len := g.cs.length) (c := cc) f1 f2
  have hy := lay_setC g.cs (x * g.w + y).toNat c (by omega)
  simp (maxSteps := 1000000) +contextual -implicitDefEqProofs [X_spec_PutCell, retK_eq, c1, c2, c3, c4, hf, ho.1, ho.2, w1, w2, hi, hy, putG]
  omega
theorem s_spec_PutCell_bad (g : GridT) (x y : Int) (c : CellT) (hg : g.small) (hf : faultG g = 0) (ho : okPut g x y c = false) : X_spec_PutCell [gridV g, .int .i64 x, .int .i64 y, celV c] [] = some (resZ 3, []) := by
  have c1 := fun rest => s_spec_l3Fault g hg rest
  have c2 := fun rest => s_spec_l3Place g x y rest
  have c3 := s_spec_l3Cell c
  have c4 := s_spec_l3Bad
  cases h : plB g.r g.w x y <;> simp [okPut, h] at ho <;> simp (maxSteps := 1000000) -implicitDefEqProofs [X_spec_PutCell, retK_eq, c1, c2, c3, c4, hf, h, *]
theorem s_spec_PutCell_fault (g : GridT) (x y : Int) (c : CellT) (hg : g.small) (hf : ¬ faultG g = 0) : X_spec_PutCell [gridV g, .int .i64 x, .int .i64 y, celV c] [] = some (resZ (faultG g), []) := by
  have c1 := fun rest => s_spec_l3Fault g hg rest
  have c4 := s_spec_l3Bad
  simp (maxSteps := 1000000) -implicitDefEqProofs [X_spec_PutCell, retK_eq, c1, c4, hf]
theorem s_impl_PutCell_1 (g : GridT) (x y : Int) (c : CellT) : X_impl_PutCell_1 [gridP g [], roP [.int .i64 x], roP [.int .i64 y], celP c] [] = some (.bool (okPut g x y c), []) := by
  have c1 := s_impl_Grid_isPlace g x y
  have c2 := s_impl_Cell_ok c
  cases h : plB g.r g.w x y <;> simp (maxSteps := 1000000) -implicitDefEqProofs [X_impl_PutCell_1, retK_eq, c1, c2, h, okPut]
theorem s_impl_Grid_at (g : GridT) (a : CellT) (x y : Int) (bk : Value) (h : IntKind.i64.wrap (x * g.w) = x * g.w) (h2 : IntKind.i64.wrap (x * g.w + y) = x * g.w + y) (h0 : 0 ≤ x * g.w + y) (h1 : x * g.w + y < g.cs.length) : X_impl_Grid_at [ptr 0, .int .i64 x, .int .i64 y] [blk [.int .i64 g.r, .int .i64 g.w, slO 1 g.cs.length, roS 0 []], ownB eC g.cs] = some (.pointer (some ⟨1, (x * g.w + y).toNat * 2, none⟩), [blk [.int .i64 g.r, .int .i64 g.w, slO 1 g.cs.length, roS 0 []], ownB eC g.cs]) := by
  have hi := fun n o cc => ixa_sl (sz := 2) .i64 (n := n) (o := o) (len := g.cs.length) (c := cc) h0 h1
  simp (maxSteps := 1000000) -implicitDefEqProofs [X_impl_Grid_at, retK_eq, h, h2, hi]
theorem s_impl_Grid_at' (g : GridT) (x y : Int) (h : IntKind.i64.wrap (x * g.w) = x * g.w) (h2 : IntKind.i64.wrap (x * g.w + y) = x * g.w + y) (h0 : 0 ≤ x * g.w + y) (h1 : x * g.w + y < g.cs.length) : X_impl_Grid_at [ptr 0, .int .i64 x, .int .i64 y] [blk [.int .i64 g.r, .int .i64 g.w, slO 1 g.cs.length, slO 2 g.bk.length], ownB eC g.cs, ownB eC g.bk] = some (.pointer (some ⟨1, (x * g.w + y).toNat * 2, none⟩), [blk [.int .i64 g.r, .int .i64 g.w, slO 1 g.cs.length, slO 2 g.bk.length], ownB eC g.cs, ownB eC g.bk]) := by
  have hi := fun n o cc => ixa_sl (sz := 2) .i64 (n := n) (o := o) (len := g.cs.length) (c := cc) h0 h1
  simp (maxSteps := 1000000) -implicitDefEqProofs [X_impl_Grid_at, retK_eq, h, h2, hi]
theorem s_impl_PutCell_2 (g : GridT) (x y : Int) (c : CellT) (hf : faultG g = 0) (ho : okPut g x y c = true) : X_impl_PutCell_2 [ptr 0, ptr 1, ptr 2, ptr 3] [blk [.int .i64 g.r, .int .i64 g.w, slO 4 g.cs.length, slO 5 g.bk.length], blk [.int .i64 c.c, .int .i64 c.a], blk [.int .i64 x], blk [.int .i64 y], ownB eC g.cs, ownB eC g.bk] = some (.tuple #[], [blk [.int .i64 g.r, .int .i64 g.w, slO 4 g.cs.length, slO 5 g.bk.length], blk [.int .i64 c.c, .int .i64 c.a], blk [.int .i64 x], blk [.int .i64 y], ownB eC (putG g x y c).cs, ownB eC g.bk]) := by
  simp [okPut] at ho
  obtain ⟨w1, w2, f1, f2, _⟩ := place_facts hf ho.1
  have ha := s_impl_Grid_at' g x y w1 w2 f1 f2
  have hy := lay_setC g.cs (x * g.w + y).toNat c (by omega)
  simp (maxSteps := 1000000) -implicitDefEqProofs [X_impl_PutCell_2, retK_eq, ha, hy, putG]
  omega
theorem s_impl_PutCell_2E (g : GridT) (x y : Int) (c : CellT) (hf : faultG g = 0) (ho : okPut g x y c = true) : X_impl_PutCell_2 [ptr 0, ptr 1, ptr 2, ptr 3] [blk [.int .i64 g.r, .int .i64 g.w, slO 4 g.cs.length, roS 0 []], blk [.int .i64 c.c, .int .i64 c.a], blk [.int .i64 x], blk [.int .i64 y], ownB eC g.cs] = some (.tuple #[], [blk [.int .i64 g.r, .int .i64 g.w, slO 4 g.cs.length, roS 0 []], blk [.int .i64 c.c, .int .i64 c.a], blk [.int .i64 x], blk [.int .i64 y], ownB eC (putG g x y c).cs]) := by
  simp [okPut] at ho
  obtain ⟨w1, w2, f1, f2, _⟩ := place_facts hf ho.1
  have ha := s_impl_Grid_at g c x y (roS 0 []) w1 w2 f1 f2
  have hy := lay_setC g.cs (x * g.w + y).toNat c (by omega)
  simp (maxSteps := 1000000) -implicitDefEqProofs [X_impl_PutCell_2, retK_eq, ha, hy, putG]
  omega
abbrev chM (g : GridT) (x y : Int) (c : CellT) : Mem := [blk [.int .i64 g.r, .int .i64 g.w, frS eC g.cs, frS eC g.bk], blk [.int .i64 x], blk [.int .i64 y], blk [.int .i64 c.c, .int .i64 c.a]]
abbrev chA (g : GridT) : List Value := [gridV g, .func (.func 59) #[] #[ptr 0, ptr 1, ptr 2, ptr 3], .func (.func 62) #[] #[ptr 3, ptr 1, ptr 2]]
theorem s_changed_fault (g : GridT) (x y : Int) (c : CellT) (hg : g.small) (hf : ¬ faultG g = 0) : X_impl_changed (chA g) (chM g x y c) = some (resZ (faultG g), chM g x y c) := by
  have c1 := s_impl_GridFault g hg
  simp (maxSteps := 1000000) -implicitDefEqProofs [X_impl_changed, cf_impl_changed, retK_eq, c1, hf]
theorem s_changed_bad (g : GridT) (x y : Int) (c : CellT) (hg : g.small) (hf : faultG g = 0) (ho : okPut g x y c = false) : X_impl_changed (chA g) (chM g x y c) = some (resZ 3, chM g x y c) := by
  have c1 := s_impl_GridFault g hg
  have c2 := s_impl_PutCell_1 g x y c
  simp (maxSteps := 1000000) -implicitDefEqProofs [X_impl_changed, cf_impl_changed, retK_eq, c1, c2, hf, ho]
theorem s_changed (g : GridT) (x y : Int) (c : CellT) (hg : g.small) (hf : faultG g = 0) (ho : okPut g x y c = true) (hb : g.bk ≠ []) : X_impl_changed (chA g) (chM g x y c) = some (resO (putG g x y c) 4 5, chM g x y c ++ [ownB eC (putG g x y c).cs, ownB eC g.bk]) := by
  have c1 := s_impl_GridFault g hg
  have c2 := s_impl_PutCell_1 g x y c
  have hp : plB g.r g.w x y = true := by simp [okPut] at ho; exact ho.1
  obtain ⟨_, _, _, _, f3⟩ := place_facts hf hp
  have c3 := s_impl_Grid_clone g hg f3 hb
  have c4 := s_impl_PutCell_2 g x y c hf ho
  simp (maxSteps := 1000000) -implicitDefEqProofs [X_impl_changed, cf_impl_changed, retK_eq, c1, c2, c3, c4, hf, ho]
  simp [putG]
theorem s_changed0 (g : GridT) (x y : Int) (c : CellT) (hg : g.small) (hf : faultG g = 0) (ho : okPut g x y c = true) (hb : g.bk = []) : X_impl_changed (chA g) (chM g x y c) = some (resE (putG g x y c) 4, chM g x y c ++ [ownB eC (putG g x y c).cs]) := by
  have c1 := s_impl_GridFault g hg
  have c2 := s_impl_PutCell_1 g x y c
  have hp : plB g.r g.w x y = true := by simp [okPut] at ho; exact ho.1
  obtain ⟨_, _, _, _, f3⟩ := place_facts hf hp
  have c3 := s_impl_Grid_clone0 g hg f3 hb
  have c4 := s_impl_PutCell_2E g x y c hf ho
  simp (maxSteps := 1000000) -implicitDefEqProofs [X_impl_changed, cf_impl_changed, retK_eq, c1, c2, c3, c4, hf, ho]
  simp [putG]
theorem s_impl_PutCell_fault (g : GridT) (x y : Int) (c : CellT) (hg : g.small) (hf : ¬ faultG g = 0) : X_impl_PutCell [gridV g, .int .i64 x, .int .i64 y, celV c] [] = some (resZ (faultG g), []) := by
  have h := s_changed_fault g x y c hg hf
  simp (maxSteps := 1000000) -implicitDefEqProofs [X_impl_PutCell, retK_eq, h]
theorem s_impl_PutCell_bad (g : GridT) (x y : Int) (c : CellT) (hg : g.small) (hf : faultG g = 0) (ho : okPut g x y c = false) : X_impl_PutCell [gridV g, .int .i64 x, .int .i64 y, celV c] [] = some (resZ 3, []) := by
  have h := s_changed_bad g x y c hg hf ho
  simp (maxSteps := 1000000) -implicitDefEqProofs [X_impl_PutCell, retK_eq, h]
theorem s_impl_PutCell (g : GridT) (x y : Int) (c : CellT) (hg : g.small) (hf : faultG g = 0) (ho : okPut g x y c = true) (hb : g.bk ≠ []) : X_impl_PutCell [gridV g, .int .i64 x, .int .i64 y, celV c] [] = some (resO (putG g x y c) 0 1, [ownB eC (putG g x y c).cs, ownB eC g.bk]) := by
  have h := s_changed g x y c hg hf ho hb
  simp (maxSteps := 1000000) -implicitDefEqProofs [X_impl_PutCell, retK_eq, h]
theorem s_impl_PutCell0 (g : GridT) (x y : Int) (c : CellT) (hg : g.small) (hf : faultG g = 0) (ho : okPut g x y c = true) (hb : g.bk = []) : X_impl_PutCell [gridV g, .int .i64 x, .int .i64 y, celV c] [] = some (resE (putG g x y c) 0, [ownB eC (putG g x y c).cs]) := by
  have h := s_changed0 g x y c hg hf ho hb
  simp (maxSteps := 1000000) -implicitDefEqProofs [X_impl_PutCell, retK_eq, h]
end Go.Ab
