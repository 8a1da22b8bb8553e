/- What the functions of the program answer, for all arguments that the theorems name as conditions. -/
import Derived.Test.YtglkdfidjalkbaaS7D3
namespace Go.Ab
set_option linter.unusedSimpArgs false
set_option linter.unusedVariables false
set_option maxHeartbeats 8000000

theorem d_PutCell (l : List Int) (hl : bytesOk l) (m : Mem) : ∃ (g : GridT) (y x : Int) (c : CellT), g.mid ∧ icall X_spec_DrawPutCell [frS eU8 l] m = some (.tuple #[gridV g, .int .i64 y, .int .i64 x, celV c], m) := by
  obtain ⟨g, bv, bm, a, hb, hg, a0, a1, h⟩ := s_l3Bent l 0 hl (by omega) (by omega)
  have h1 := s_l1Next l a 5 hl ⟨by omega, by omega⟩
  have h2 := s_l1Next l (a + 1) 6 hl ⟨by omega, by omega⟩
  have h3 := s_l3DrawCell l (a + 1 + 1) hl ⟨by omega, by omega⟩ ⟨by omega, by omega⟩
  refine ⟨g, IntKind.i64.wrap (nx l a 5 - 1), IntKind.i64.wrap (nx l (a + 1) 6 - 1), dcC l (a + 1 + 1), hg, ?_⟩
  rcases hb with ⟨rfl, rfl, hb0⟩ | ⟨rfl, rfl, hb0⟩
  · have e : frS eC g.bk = roS 0 [] := by rw [hb0]; exact frS_nil eC
    simp (maxSteps := 400000) -implicitDefEqProofs [X_spec_DrawPutCell, retK_eq, s_l1Source, h, h1, h2, h3, e]
  · simp (maxSteps := 400000) -implicitDefEqProofs [X_spec_DrawPutCell, retK_eq, s_l1Source, h, h1, h2, h3]
theorem d_EraseCells (l : List Int) (hl : bytesOk l) (m : Mem) : ∃ (g : GridT) (i j z : Int), g.mid ∧ icall X_spec_DrawEraseCells [frS eU8 l] m = some (.tuple #[gridV g, .int .i64 i, .int .i64 j, .int .i64 z], m) := by
  obtain ⟨g, bv, bm, a, hb, hg, a0, a1, h⟩ := s_l3Bent l 0 hl (by omega) (by omega)
  have hg1 := hg.1
  have w1 : IntKind.i64.wrap ((g.cs.length : Int) + 1) = (g.cs.length : Int) + 1 := wrap_i64 (by omega) (by omega)
  have w2 : IntKind.i64.wrap ((g.cs.length : Int) + 2) = (g.cs.length : Int) + 2 := wrap_i64 (by omega) (by omega)
  have h1 := s_l1Next l a ((g.cs.length : Int) + 1) hl ⟨by omega, by omega⟩
  have h2 := s_l1Next l (a + 1) ((g.cs.length : Int) + 2) hl ⟨by omega, by omega⟩
  have h3 := fun x y z => s_pick3 l (a + 1 + 1) x y z hl ⟨by omega, by omega⟩
  have h4 := s_pick3 l (a + 1 + 1 + 1) 0 3 32 hl ⟨by omega, by omega⟩
  refine ⟨g, nx l a ((g.cs.length : Int) + 1), pk l (a + 1 + 1) [(g.cs.length : Int), nx l (a + 1) ((g.cs.length : Int) + 2), (g.cs.length : Int) + 1], pk l (a + 1 + 1 + 1) [0, 3, 32], hg, ?_⟩
  rcases hb with ⟨rfl, rfl, hb0⟩ | ⟨rfl, rfl, hb0⟩
  · have e : frS eC g.bk = roS 0 [] := by rw [hb0]; exact frS_nil eC
    simp (maxSteps := 400000) -implicitDefEqProofs [X_spec_DrawEraseCells, retK_eq, s_l1Source, h, w1, w2, h1, h2, h3, h4, e]
  · simp (maxSteps := 400000) -implicitDefEqProofs [X_spec_DrawEraseCells, retK_eq, s_l1Source, h, w1, w2, h1, h2, h3, h4]
end Go.Ab
