/- What the functions of the program answer, for all arguments that the theorems name as conditions. -/
import Derived.Test.YtglkdfidjalkbaaS2G6g
import Derived.Test.YtglkdfidjalkbaaS2G23
import Derived.Test.YtglkdfidjalkbaaS2G28
import Derived.Test.YtglkdfidjalkbaaS2G10b
namespace Go.Ab
set_option linter.unusedSimpArgs false
set_option linter.unusedVariables false
set_option maxHeartbeats 8000000

theorem scG_small {g : GridT} {t b n z : Int} (hg : g.small) (hf : faultG g = 0) (ho : okSc g t b n z = true) : (scG g t b n z).small := by
  obtain ⟨q1, q2, q3, q4, q5, q6, q7, q8, q9, q10, _⟩ := grid_facts hf
  refine ⟨by rw [sc_len hf ho]; exact hg.1, ?_⟩
  simp only [scG]
  split
  · unfold keepL
    simp [scKp]
    omega
  · exact hg.2
theorem s_FnExactScrollGrid (g : GridT) (t b n z : Int) (hg : g.fit) : X_laws_FnExactScrollGrid [gridV g, .int .i64 t, .int .i64 b, .int .i64 n, .int .i64 z] [] = some (.bool true, []) := by
  have c0 := s_szGrid g 1048576 hg.1 hg.2 (by omega) (by omega)
  by_cases h0 : g.szl 1048576 < 0
  · simp (maxSteps := 2000000) +contextual -implicitDefEqProofs [X_laws_FnExactScrollGrid, retK_eq, c0, h0]
  · have h := szl_small (by omega) h0
    have c1 := s_toGrid g h
    have c3 := s_eqGrid2 g h
    have c4 := s_markGrid g 1 h (by omega) (by omega)
    have u := upG_pos g (t := 1) (by omega)
    by_cases hf : faultG g = 0
    · cases ho : okSc g t b n z
      · have d1 := s_spec_ScrollGrid_bad g t b n z h hf ho
        have d2 := s_impl_ScrollGrid_bad g t b n z h hf ho
        have d3 := s_eqGridResult 3 ⟨0, 0, [], []⟩ ⟨by simp, by simp⟩
        have d4 := s_markGridResultZ 3 1
        have d5 := s_heldGridResult 3 ⟨0, 0, [], []⟩ 1 ⟨by simp, by simp⟩ (by omega) (by omega)
        simp [resV, frS_nil, markG, markC, upG, upC] at d3 d5
        simp (maxSteps := 4000000) -implicitDefEqProofs [X_laws_FnExactScrollGrid, retK_eq, c0, h0, c1, c3, c4, u, d1, d2, d3, d4, d5]
      · have p := scG_small h hf ho
        have u2 := upG_pos (scG g t b n z) (t := 1) (by omega)
        have d1 := s_spec_ScrollGrid g t b n z h hf ho (sc_len hf ho)
        have d3 := s_eqGridResult 0 (scG g t b n z) p
        have d5 := s_heldGridResult 0 (scG g t b n z) 1 p (by omega) (by omega)
        by_cases hk : t = 0 ∧ 0 < n
        · obtain ⟨rfl, hn⟩ := hk
          have d2 := s_impl_ScrollGridK g b n z h hf ho hn
          have eb := scG_bk g b n z hn
          have ea := keep_all g.bk (scKp g b n) (5 * g.w).toNat
          rw [← eb] at ea
          rw [← ea] at d2
          generalize keepP g.bk (scKp g b n) (5 * g.w).toNat = pre at *
          generalize scG g 0 b n z = G at *
          have d4 := s_markGridResultP G pre [] G.cs.length G.bk.length 1 p (by omega) (by omega)
          have f1 := fz_pre pre G.bk
          have f2 := fz_pre pre (markG G 1).bk
          rw [markG_bl] at f2
          simp only [resV, markG_r, markG_w] at d5
          simp at d4
          simp (maxSteps := 4000000) -implicitDefEqProofs [X_laws_FnExactScrollGrid, retK_eq, c0, h0, c1, c3, c4, u, u2, d1, d2, d3, d4, d5, fz_markC, f1, f2]
        · have e1 : (scG g t b n z).bk = g.bk := by simp only [scG]; rw [if_neg hk]
          by_cases hb : g.bk = []
          · have d2 := s_impl_ScrollGrid0 g t b n z h hf ho hk hb
            have d4 := s_markGridResultE (scG g t b n z) 1 p (by rw [e1, hb]) (by omega) (by omega)
            have hq : frS eC (scG g t b n z).bk = roS 0 [] := by rw [e1, hb]; rfl
            have hq2 : frS eC (markG (scG g t b n z) 1).bk = roS 0 [] := by simp only [markG, e1, hb]; rfl
            simp only [resV, hq] at d3
            simp only [resV, hq2, markG_r, markG_w] at d5
            simp (maxSteps := 4000000) -implicitDefEqProofs [X_laws_FnExactScrollGrid, retK_eq, c0, h0, c1, c3, c4, u, u2, d1, d2, d3, d4, d5, fz_markC, fz_markB, hq]
          · have d2 := s_impl_ScrollGrid g t b n z h hf ho hk hb
            have d4 := s_markGridResult (scG g t b n z) 1 p (by omega) (by omega)
            rw [← e1] at d2
            simp only [resV, markG_r, markG_w] at d5
            simp (maxSteps := 4000000) -implicitDefEqProofs [X_laws_FnExactScrollGrid, retK_eq, c0, h0, c1, c3, c4, u, u2, d1, d2, d3, d4, d5, fz_markC, fz_markB]
    · have d1 := s_spec_ScrollGrid_fault g t b n z h hf
      have d2 := s_impl_ScrollGrid_fault g t b n z h hf
      have d3 := s_eqGridResult (faultG g) ⟨0, 0, [], []⟩ ⟨by simp, by simp⟩
      have d4 := s_markGridResultZ (faultG g) 1
      have d5 := s_heldGridResult (faultG g) ⟨0, 0, [], []⟩ 1 ⟨by simp, by simp⟩ (by omega) (by omega)
      simp [resV, frS_nil, markG, markC, upG, upC] at d3 d5
      simp (maxSteps := 4000000) -implicitDefEqProofs [X_laws_FnExactScrollGrid, retK_eq, c0, h0, c1, c3, c4, u, d1, d2, d3, d4, d5]
def good : List Nat := [2, 22, 24, 26]
theorem good_ok : goodB CT good = true := by kernel_rfl
theorem all_FnExactScrollGrid : ∀ xs, TypedAll CT [24, 2, 2, 2, 2] xs → Fz CT 10 xs (.bool true)
  | [a, b, c, d, e], h => by
    obtain ⟨g, rfl, hg, _⟩ := typed_grid h.1
    obtain ⟨x, rfl, _⟩ := typed_i64 (i := 2) h.2.1 rfl
    obtain ⟨y, rfl, _⟩ := typed_i64 (i := 2) h.2.2.1 rfl
    obtain ⟨z, rfl, _⟩ := typed_i64 (i := 2) h.2.2.2.1 rfl
    obtain ⟨u, rfl, _⟩ := typed_i64 (i := 2) h.2.2.2.2.1 rfl
    exact fz_law ok_X_laws_FnExactScrollGrid (s_FnExactScrollGrid g x y z u hg) (by simp)
  | [], h => h.elim
  | [_], h => h.2.elim
  | [_, _], h => h.2.2.elim
  | [_, _, _], h => h.2.2.2.elim
  | [_, _, _, _], h => h.2.2.2.2.elim
  | _ :: _ :: _ :: _ :: _ :: _ :: _, h => h.2.2.2.2.2.elim
end Go.Ab
