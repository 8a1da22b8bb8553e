/- What the functions of the program answer, for all arguments that the theorems name as conditions. -/
import Derived.Test.YtglkdfidjalkbaaS2G6g
import Derived.Test.YtglkdfidjalkbaaS2G14
namespace Go.Ab
set_option linter.unusedSimpArgs false
set_option linter.unusedVariables false
set_option maxHeartbeats 8000000

theorem markG_r (g : GridT) (t : Int) : (markG g t).r = g.r := rfl
theorem markG_w (g : GridT) (t : Int) : (markG g t).w = g.w := rfl
theorem fz_markC (g : GridT) (t : Int) (k : Nat) (m : Mem) : fzO (k + 1) m (some (ownB eC (markG g t).cs)) 0 g.cs.length = some (frS eC (markG g t).cs) := by
  have := fzO_own eC k m (markG g t).cs
  rwa [show (markG g t).cs.length = g.cs.length by simp [markG]] at this
theorem fz_markB (g : GridT) (t : Int) (k : Nat) (m : Mem) : fzO (k + 1) m (some (ownB eC (markG g t).bk)) 0 g.bk.length = some (frS eC (markG g t).bk) := by
  have := fzO_own eC k m (markG g t).bk
  rwa [show (markG g t).bk.length = g.bk.length by simp [markG]] at this
theorem eraG_small {g : GridT} {x y c : Int} (hg : g.small) (ho : okEra g x y c = true) : (eraG g x y c).small := ⟨by rw [era_len ho]; exact hg.1, hg.2⟩
theorem s_FnExactEraseCells (g : GridT) (x y c : Int) (hg : g.fit) : X_laws_FnExactEraseCells [gridV g, .int .i64 x, .int .i64 y, (.int .i64 c)] [] = some (.bool true, []) := by
  have c0 := s_szGrid g 1048576 hg.1 hg.2 (by omega) (by omega)
  by_cases h0 : g.szl 1048576 < 0
  · simp (maxSteps := 2000000) +contextual -implicitDefEqProofs [X_laws_FnExactEraseCells, retK_eq, c0, h0]
  · have h := szl_small (by omega) h0
    have c1 := s_toGrid g h
    have c3 := s_eqGrid2 g h
    have c4 := s_markGrid g 1 h (by omega) (by omega)
    have u := upG_pos g (t := 1) (by omega)
    by_cases hf : faultG g = 0
    · cases ho : okEra g x y c
      · have d1 := s_spec_EraseCells_bad g x y c h hf ho
        have d2 := s_impl_EraseCells_bad g x y c h hf ho
        have d3 := s_eqGridResult 3 ⟨0, 0, [], []⟩ ⟨by simp, by simp⟩
        have d4 := s_markGridResultZ 3 1
        have d5 := s_heldGridResult 3 ⟨0, 0, [], []⟩ 1 ⟨by simp, by simp⟩ (by omega) (by omega)
        simp [resV, frS_nil, markG, markC, upG, upC] at d3 d5
        simp (maxSteps := 4000000) -implicitDefEqProofs [X_laws_FnExactEraseCells, retK_eq, c0, h0, c1, c3, c4, u, d1, d2, d3, d4, d5]
      · have p := eraG_small (x := x) (y := y) (c := c) h ho
        have u2 := upG_pos (eraG g x y c) (t := 1) (by omega)
        have d1 := s_spec_EraseCells g x y c h hf ho
        have d3 := s_eqGridResult 0 (eraG g x y c) p
        have d5 := s_heldGridResult 0 (eraG g x y c) 1 p (by omega) (by omega)
        have e1 : (eraG g x y c).bk = g.bk := rfl
        by_cases hb : g.bk = []
        · have d2 := s_impl_EraseCells0 g x y c h hf ho hb
          have d4 := s_markGridResultE (eraG g x y c) 1 p hb (by omega) (by omega)
          have hq : frS eC (eraG g x y c).bk = roS 0 [] := by rw [e1, hb]; rfl
          have hq2 : frS eC (markG (eraG g x y c) 1).bk = roS 0 [] := by simp only [markG, e1, hb]; rfl
          rw [← e1] at d1
          simp only [resV, hq] at d3
          simp only [resV, hq2, markG_r, markG_w] at d5
          simp (maxSteps := 4000000) -implicitDefEqProofs [X_laws_FnExactEraseCells, retK_eq, c0, h0, c1, c3, c4, u, u2, d1, d2, d3, d4, d5, fz_markC, fz_markB, hq]
        · have d2 := s_impl_EraseCells g x y c h hf ho hb
          have d4 := s_markGridResult (eraG g x y c) 1 p (by omega) (by omega)
          rw [← e1] at d1 d2
          simp only [resV, markG_r, markG_w] at d5
          simp (maxSteps := 4000000) -implicitDefEqProofs [X_laws_FnExactEraseCells, retK_eq, c0, h0, c1, c3, c4, u, u2, d1, d2, d3, d4, d5, fz_markC, fz_markB]
    · have d1 := s_spec_EraseCells_fault g x y c h hf
      have d2 := s_impl_EraseCells_fault g x y c h hf
      have d3 := s_eqGridResult (faultG g) ⟨0, 0, [], []⟩ ⟨by simp, by simp⟩
      have d4 := s_markGridResultZ (faultG g) 1
      have d5 := s_heldGridResult (faultG g) ⟨0, 0, [], []⟩ 1 ⟨by simp, by simp⟩ (by omega) (by omega)
      simp [resV, frS_nil, markG, markC, upG, upC] at d3 d5
      simp (maxSteps := 4000000) -implicitDefEqProofs [X_laws_FnExactEraseCells, retK_eq, c0, h0, c1, c3, c4, u, d1, d2, d3, d4, d5]
def good : List Nat := [2, 22, 24, 26]
theorem good_ok : goodB CT good = true := by kernel_rfl
theorem all_FnExactEraseCells : ∀ xs, TypedAll CT [24, 2, 2, 2] xs → Fz CT 5 xs (.bool true)
  | [a, b, c, d], h => by
    obtain ⟨g, rfl, hg, _⟩ := typed_grid h.1
    obtain ⟨x, rfl, _⟩ := typed_i64 (i := 2) h.2.1 rfl
    obtain ⟨y, rfl, _⟩ := typed_i64 (i := 2) h.2.2.1 rfl
    obtain ⟨z, rfl, _⟩ := typed_i64 (i := 2) h.2.2.2.1 rfl
    exact fz_law ok_X_laws_FnExactEraseCells (s_FnExactEraseCells g x y z hg) (by simp)
  | [], h => h.elim
  | [_], h => h.2.elim
  | [_, _], h => h.2.2.elim
  | [_, _, _], h => h.2.2.2.elim
  | _ :: _ :: _ :: _ :: _ :: _, h => h.2.2.2.2.elim
end Go.Ab
