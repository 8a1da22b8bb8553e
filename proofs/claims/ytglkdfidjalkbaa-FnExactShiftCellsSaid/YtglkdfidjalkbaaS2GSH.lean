/- What the functions of the program answer, for all arguments that the theorems name as conditions. -/
import Derived.Test.YtglkdfidjalkbaaS2G6g
import Derived.Test.YtglkdfidjalkbaaS2G18
import Derived.Test.YtglkdfidjalkbaaS2G20
import Derived.Test.YtglkdfidjalkbaaS2G10b
namespace Go.Ab
set_option linter.unusedSimpArgs false
set_option linter.unusedVariables false
set_option maxHeartbeats 8000000

theorem shG_small {g : GridT} {y x n z : Int} (hg : g.small) (hf : faultG g = 0) (ho : okSh g y x n z = true) : (shG g y x n z).small := ⟨by rw [sh_len hf ho]; exact hg.1, hg.2⟩
theorem s_FnExactShiftCells (g : GridT) (y x n z : Int) (hg : g.fit) : X_laws_FnExactShiftCells [gridV g, .int .i64 y, .int .i64 x, .int .i64 n, .int .i64 z] [] = some (.bool true, []) := by
  have c0 := s_szGrid g 1048576 hg.1 hg.2 (by omega) (by omega)
  by_cases h0 : g.szl 1048576 < 0
  · simp (maxSteps := 2000000) +contextual -implicitDefEqProofs [X_laws_FnExactShiftCells, retK_eq, c0, h0]
  · have h := szl_small (by omega) h0
    have c1 := s_toGrid g h
    have c3 := s_eqGrid2 g h
    have c4 := s_markGrid g 1 h (by omega) (by omega)
    have u := upG_pos g (t := 1) (by omega)
    by_cases hf : faultG g = 0
    · cases ho : okSh g y x n z
      · have d1 := s_spec_ShiftCells_bad g y x n z h hf ho
        have d2 := s_impl_ShiftCells_bad g y x n z h hf ho
        have d3 := s_eqGridResult 3 ⟨0, 0, [], []⟩ ⟨by simp, by simp⟩
        have d4 := s_markGridResultZ 3 1
        have d5 := s_heldGridResult 3 ⟨0, 0, [], []⟩ 1 ⟨by simp, by simp⟩ (by omega) (by omega)
        simp [resV, frS_nil, markG, markC, upG, upC] at d3 d5
        simp (maxSteps := 4000000) -implicitDefEqProofs [X_laws_FnExactShiftCells, retK_eq, c0, h0, c1, c3, c4, u, d1, d2, d3, d4, d5]
      · have p := shG_small h hf ho
        have u2 := upG_pos (shG g y x n z) (t := 1) (by omega)
        have d1 := s_spec_ShiftCells g y x n z h hf ho (sh_len hf ho)
        have d3 := s_eqGridResult 0 (shG g y x n z) p
        have d5 := s_heldGridResult 0 (shG g y x n z) 1 p (by omega) (by omega)
        have e1 : (shG g y x n z).bk = g.bk := rfl
        by_cases hb : g.bk = []
        · have d2 := s_impl_ShiftCells0 g y x n z h hf ho hb
          have d4 := s_markGridResultE (shG g y x n z) 1 p hb (by omega) (by omega)
          have hq : frS eC (shG g y x n z).bk = roS 0 [] := by rw [e1, hb]; rfl
          have hq2 : frS eC (markG (shG g y x n z) 1).bk = roS 0 [] := by simp only [markG, e1, hb]; rfl
          rw [← e1] at d1
          simp only [resV, hq] at d3
          simp only [resV, hq2, markG_r, markG_w] at d5
          simp (maxSteps := 4000000) -implicitDefEqProofs [X_laws_FnExactShiftCells, retK_eq, c0, h0, c1, c3, c4, u, u2, d1, d2, d3, d4, d5, fz_markC, fz_markB, hq]
        · have d2 := s_impl_ShiftCells g y x n z h hf ho hb
          have d4 := s_markGridResult (shG g y x n z) 1 p (by omega) (by omega)
          rw [← e1] at d1 d2
          simp only [resV, markG_r, markG_w] at d5
          simp (maxSteps := 4000000) -implicitDefEqProofs [X_laws_FnExactShiftCells, retK_eq, c0, h0, c1, c3, c4, u, u2, d1, d2, d3, d4, d5, fz_markC, fz_markB]
    · have d1 := s_spec_ShiftCells_fault g y x n z h hf
      have d2 := s_impl_ShiftCells_fault g y x n z h hf
      have d3 := s_eqGridResult (faultG g) ⟨0, 0, [], []⟩ ⟨by simp, by simp⟩
      have d4 := s_markGridResultZ (faultG g) 1
      have d5 := s_heldGridResult (faultG g) ⟨0, 0, [], []⟩ 1 ⟨by simp, by simp⟩ (by omega) (by omega)
      simp [resV, frS_nil, markG, markC, upG, upC] at d3 d5
      simp (maxSteps := 4000000) -implicitDefEqProofs [X_laws_FnExactShiftCells, retK_eq, c0, h0, c1, c3, c4, u, d1, d2, d3, d4, d5]
def good : List Nat := [2, 22, 24, 26]
theorem good_ok : goodB CT good = true := by kernel_rfl
theorem all_FnExactShiftCells : ∀ xs, TypedAll CT [24, 2, 2, 2, 2] xs → Fz CT 7 xs (.bool true)
  | [a, b, c, d, e], h => by
    obtain ⟨g, rfl, hg, _⟩ := typed_grid h.1
    obtain ⟨x, rfl, _⟩ := typed_i64 (i := 2) h.2.1 rfl
    obtain ⟨y, rfl, _⟩ := typed_i64 (i := 2) h.2.2.1 rfl
    obtain ⟨z, rfl, _⟩ := typed_i64 (i := 2) h.2.2.2.1 rfl
    obtain ⟨u, rfl, _⟩ := typed_i64 (i := 2) h.2.2.2.2.1 rfl
    exact fz_law ok_X_laws_FnExactShiftCells (s_FnExactShiftCells g x y z u hg) (by simp)
  | [], h => h.elim
  | [_], h => h.2.elim
  | [_, _], h => h.2.2.elim
  | [_, _, _], h => h.2.2.2.elim
  | [_, _, _, _], h => h.2.2.2.2.elim
  | _ :: _ :: _ :: _ :: _ :: _ :: _, h => h.2.2.2.2.2.elim
end Go.Ab
