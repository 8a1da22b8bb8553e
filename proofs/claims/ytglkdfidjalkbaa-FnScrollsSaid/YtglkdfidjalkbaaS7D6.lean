/- What the functions of the program answer, for all arguments that the theorems name as conditions. -/
import Derived.Test.YtglkdfidjalkbaaS7D3
namespace Go.Ab
set_option linter.unusedSimpArgs false
set_option linter.unusedVariables false
set_option maxHeartbeats 8000000

theorem d_ScrollGrid (l : List Int) (hl : bytesOk l) (m : Mem) : ∃ (g : GridT) (t b n z : Int), g.mid ∧ icall X_spec_DrawScrollGrid [frS eU8 l] m = some (.tuple #[gridV g, .int .i64 t, .int .i64 b, .int .i64 n, .int .i64 z], m) := by
  obtain ⟨g, bv, bm, a, hb, hg, a0, a1, h⟩ := s_l3Bent l 0 hl (by omega) (by omega)
  have h1 := s_pick4 l a 0 0 1 (-1) hl ⟨by omega, by omega⟩
  have h2 := fun x y z u => s_pick4 l (a + 1) x y z u hl ⟨by omega, by omega⟩
  have h3 := s_pick7 l (a + 1 + 1) 1 2 (-1) (-2) 0 9 10 hl ⟨by omega, by omega⟩
  have h4 := s_pick3 l (a + 1 + 1 + 1) 0 3 32 hl ⟨by omega, by omega⟩
  refine ⟨g, pk l a [0, 0, 1, -1], pk l (a + 1) [IntKind.i64.wrap (g.r - 1), IntKind.i64.wrap (g.r - 1), 1, g.r], pk l (a + 1 + 1) [1, 2, -1, -2, 0, 9, 10], pk l (a + 1 + 1 + 1) [0, 3, 32], hg, ?_⟩
  rcases hb with ⟨rfl, rfl, hb0⟩ | ⟨rfl, rfl, hb0⟩
  · have e : frS eC g.bk = roS 0 [] := by rw [hb0]; exact frS_nil eC
    simp (maxSteps := 800000) -implicitDefEqProofs [X_spec_DrawScrollGrid, retK_eq, s_l1Source, h, h1, h2, h3, h4, e]
  · simp (maxSteps := 800000) -implicitDefEqProofs [X_spec_DrawScrollGrid, retK_eq, s_l1Source, h, h1, h2, h3, h4]
end Go.Ab
