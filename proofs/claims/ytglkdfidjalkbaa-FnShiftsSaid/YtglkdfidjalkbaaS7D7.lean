/- What the functions of the program answer, for all arguments that the theorems name as conditions. -/
import Derived.Test.YtglkdfidjalkbaaS7D3
namespace Go.Ab
set_option linter.unusedSimpArgs false
set_option linter.unusedVariables false
set_option maxHeartbeats 8000000

theorem d_ShiftCells (l : List Int) (hl : bytesOk l) (m : Mem) : ∃ (g : GridT) (y x n z : Int), g.mid ∧ icall X_spec_DrawShiftCells [frS eU8 l] m = some (.tuple #[gridV g, .int .i64 y, .int .i64 x, .int .i64 n, .int .i64 z], m) := by
  obtain ⟨g, bv, bm, a, hb, hg, a0, a1, h⟩ := s_l3Bent l 0 hl (by omega) (by omega)
  have h1 := s_pick4 l a 0 0 1 4 hl ⟨by omega, by omega⟩
  have h2 := s_pick4 l (a + 1) 0 1 2 6 hl ⟨by omega, by omega⟩
  have h3 := s_pick7 l (a + 1 + 1) 1 2 (-1) (-2) 12 (-12) 13 hl ⟨by omega, by omega⟩
  have h4 := s_pick3 l (a + 1 + 1 + 1) 0 3 32 hl ⟨by omega, by omega⟩
  refine ⟨g, pk l a [0, 0, 1, 4], pk l (a + 1) [0, 1, 2, 6], pk l (a + 1 + 1) [1, 2, -1, -2, 12, -12, 13], pk l (a + 1 + 1 + 1) [0, 3, 32], hg, ?_⟩
  rcases hb with ⟨rfl, rfl, hb0⟩ | ⟨rfl, rfl, hb0⟩
  · have e : frS eC g.bk = roS 0 [] := by rw [hb0]; exact frS_nil eC
    simp (maxSteps := 800000) -implicitDefEqProofs [X_spec_DrawShiftCells, retK_eq, s_l1Source, h, h1, h2, h3, h4, e]
  · simp (maxSteps := 800000) -implicitDefEqProofs [X_spec_DrawShiftCells, retK_eq, s_l1Source, h, h1, h2, h3, h4]
theorem d_ResizeGrid (l : List Int) (hl : bytesOk l) (m : Mem) : ∃ (g : GridT) (r w : Int), g.mid ∧ icall X_spec_DrawResizeGrid [frS eU8 l] m = some (.tuple #[gridV g, .int .i64 r, .int .i64 w], m) := by
  obtain ⟨g, bv, bm, a, hb, hg, a0, a1, h⟩ := s_l3Bent l 0 hl (by omega) (by omega)
  have h1 := s_pick5 l a 1 2 4 6 7 hl ⟨by omega, by omega⟩
  have h2 := s_pick5 l (a + 1) 2 3 5 12 1 hl ⟨by omega, by omega⟩
  refine ⟨g, pk l a [1, 2, 4, 6, 7], pk l (a + 1) [2, 3, 5, 12, 1], hg, ?_⟩
  rcases hb with ⟨rfl, rfl, hb0⟩ | ⟨rfl, rfl, hb0⟩
  · have e : frS eC g.bk = roS 0 [] := by rw [hb0]; exact frS_nil eC
    simp (maxSteps := 800000) -implicitDefEqProofs [X_spec_DrawResizeGrid, retK_eq, s_l1Source, h, h1, h2, e]
  · simp (maxSteps := 800000) -implicitDefEqProofs [X_spec_DrawResizeGrid, retK_eq, s_l1Source, h, h1, h2]
theorem d_NewGrid (l : List Int) (hl : bytesOk l) (m : Mem) : ∃ (r w : Int), icall X_spec_DrawNewGrid [frS eU8 l] m = some (.tuple #[.int .i64 r, .int .i64 w], m) := by
  have h1 := s_pick4 l 0 1 6 7 0 hl ⟨by omega, by omega⟩
  have h2 := s_pick4 l (0 + 1) 2 12 13 1 hl ⟨by omega, by omega⟩
  refine ⟨pk l 0 [1, 6, 7, 0], pk l (0 + 1) [2, 12, 13, 1], ?_⟩
  simp at h1 h2
  simp (maxSteps := 800000) -implicitDefEqProofs [X_spec_DrawNewGrid, retK_eq, s_l1Source, h1, h2]
end Go.Ab
