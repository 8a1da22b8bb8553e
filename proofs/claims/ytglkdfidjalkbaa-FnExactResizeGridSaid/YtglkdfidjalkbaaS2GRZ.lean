/- What the functions of the program answer, for all arguments that the theorems name as conditions. -/
import Derived.Test.YtglkdfidjalkbaaS2G6g
import Derived.Test.YtglkdfidjalkbaaS2G33
import Derived.Test.YtglkdfidjalkbaaS2G10b
namespace Go.Ab
set_option linter.unusedSimpArgs false
set_option linter.unusedVariables false
set_option maxHeartbeats 8000000

theorem reG_small {g : GridT} {rows v : Int} (hf : faultG g = 0) (ho : szB rows v = true) : (reG g rows v).small := by
  obtain ⟨R, W, S, V, e, hR, hW, rfl, rfl, R1, R6, W2, W12, S1, S6, V2, V12, hcs, hbk, he, hdiv⟩ := re_facts hf ho
  have m3 : S * V ≤ 6 * 12 := Nat.mul_le_mul S6 V12
  have m4 : e * V ≤ 5 * 12 := Nat.mul_le_mul he V12
  have eb : reB g V = widN W V e g.bk := by simp [reB, hW, hdiv]
  refine ⟨?_, ?_⟩
  · simp [reG]; omega
  · simp only [reG]; rw [eb, widN_len]; omega
theorem s_FnExactResizeGrid (g : GridT) (rows v : Int) (hg : g.fit) : X_laws_FnExactResizeGrid [gridV g, .int .i64 rows, .int .i64 v] [] = some (.bool true, []) := by
  have c0 := s_szGrid g 1048576 hg.1 hg.2 (by omega) (by omega)
  by_cases h0 : g.szl 1048576 < 0
  · simp (maxSteps := 2000000) +contextual -implicitDefEqProofs [X_laws_FnExactResizeGrid, retK_eq, c0, h0]
  · have h := szl_small (by omega) h0
    have c1 := s_toGrid g h
    have c3 := s_eqGrid2 g h
    have c4 := s_markGrid g 1 h (by omega) (by omega)
    have u := upG_pos g (t := 1) (by omega)
    by_cases hf : faultG g = 0
    · cases ho : szB rows v
      · have d1 := s_spec_ResizeGrid_bad g rows v h hf ho
        have d2 := s_impl_ResizeGrid_bad g rows v h hf ho
        have d3 := s_eqGridResult 3 ⟨0, 0, [], []⟩ ⟨by simp, by simp⟩
        have d4 := s_markGridResultZ 3 1
        have d5 := s_heldGridResult 3 ⟨0, 0, [], []⟩ 1 ⟨by simp, by simp⟩ (by omega) (by omega)
        simp [resV, frS_nil, markG, markC, upG, upC] at d3 d5
        simp (maxSteps := 4000000) -implicitDefEqProofs [X_laws_FnExactResizeGrid, retK_eq, c0, h0, c1, c3, c4, u, d1, d2, d3, d4, d5]
      · have p := reG_small hf ho
        have u2 := upG_pos (reG g rows v) (t := 1) (by omega)
        obtain ⟨bv, bm, hb, d1⟩ := s_spec_ResizeGrid g rows v h hf ho
        have d2 := s_impl_ResizeGrid g rows v h hf ho
        have d3 := s_eqGridResult 0 (reG g rows v) p
        have d5 := s_heldGridResult 0 (reG g rows v) 1 p (by omega) (by omega)
        have e1 : (reG g rows v).r = rows := rfl
        have e2 : (reG g rows v).w = v := rfl
        have e3 : reB g v = (reG g rows v).bk := rfl
        have ec : reC g rows v = (reG g rows v).cs ++ (reC g rows v).drop (rows.toNat * v.toNat) := (List.take_append_drop _ _).symm
        rw [ec] at d2
        rw [e3] at d2 hb
        generalize (reC g rows v).drop (rows.toNat * v.toNat) = post at *
        have d4 := s_markGridResultP (reG g rows v) [] post ((reG g rows v).cs ++ post).length (reG g rows v).bk.length 1 p (by omega) (by omega)
        clear ec
        rw [e1, e2] at d4
        rw [resW, e1, e2] at d2
        simp only [resV, markG_r, markG_w, e1, e2] at d3 d5
        generalize reG g rows v = G at *
        have f1 := fz_post G.cs post
        have f2 := fz_post (markG G 1).cs post
        rw [markG_cl] at f2
        simp at d4
        generalize hL : (G.cs ++ post).length = L at *
        rw [← List.length_append, hL] at d4
        rcases hb with ⟨hb0, rfl, rfl⟩ | ⟨hb0, rfl, rfl⟩
        · have hq : frS eC G.bk = roS 0 [] := by rw [hb0]; rfl
          have hq2 : frS eC (markG G 1).bk = roS 0 [] := by simp only [markG, hb0]; rfl
          have q0 : G.bk.length = 0 := by rw [hb0]; rfl
          rw [hq] at d3
          rw [hq2] at d5
          rw [q0] at d2 d4
          have z0 : ∀ k m b, fzO k m b 0 0 = some (roS 0 []) := fun k m b => rfl
          simp (maxSteps := 4000000) -implicitDefEqProofs [X_laws_FnExactResizeGrid, retK_eq, c0, h0, c1, c3, c4, u, u2, d1, d2, d3, d4, d5, fz_markC, f1, f2, z0]
        · simp (maxSteps := 4000000) -implicitDefEqProofs [X_laws_FnExactResizeGrid, retK_eq, c0, h0, c1, c3, c4, u, u2, d1, d2, d3, d4, d5, fz_markC, fz_markB, f1, f2]
    · have d1 := s_spec_ResizeGrid_fault g rows v h hf
      have d2 := s_impl_ResizeGrid_fault g rows v h hf
      have d3 := s_eqGridResult (faultG g) ⟨0, 0, [], []⟩ ⟨by simp, by simp⟩
      have d4 := s_markGridResultZ (faultG g) 1
      have d5 := s_heldGridResult (faultG g) ⟨0, 0, [], []⟩ 1 ⟨by simp, by simp⟩ (by omega) (by omega)
      simp [resV, frS_nil, markG, markC, upG, upC] at d3 d5
      simp (maxSteps := 4000000) -implicitDefEqProofs [X_laws_FnExactResizeGrid, retK_eq, c0, h0, c1, c3, c4, u, d1, d2, d3, d4, d5]
def good : List Nat := [2, 22, 24, 26]
theorem good_ok : goodB CT good = true := by kernel_rfl
theorem all_FnExactResizeGrid : ∀ xs, TypedAll CT [24, 2, 2] xs → Fz CT 8 xs (.bool true)
  | [a, b, c], h => by
    obtain ⟨g, rfl, hg, _⟩ := typed_grid h.1
    obtain ⟨x, rfl, _⟩ := typed_i64 (i := 2) h.2.1 rfl
    obtain ⟨y, rfl, _⟩ := typed_i64 (i := 2) h.2.2.1 rfl
    exact fz_law ok_X_laws_FnExactResizeGrid (s_FnExactResizeGrid g x y hg) (by simp)
  | [], h => h.elim
  | [_], h => h.2.elim
  | [_, _], h => h.2.2.elim
  | _ :: _ :: _ :: _ :: _, h => h.2.2.2.elim
end Go.Ab
