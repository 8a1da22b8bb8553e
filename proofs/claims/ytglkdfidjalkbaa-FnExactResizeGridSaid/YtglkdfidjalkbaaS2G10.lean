/- What the functions of the program answer, for all arguments that the theorems name as conditions. -/
import Derived.Test.YtglkdfidjalkbaaS2G9a
namespace Go.Ab
set_option linter.unusedSimpArgs false
set_option linter.unusedVariables false
set_option maxHeartbeats 4000000

/-! ## Results of grids: equal, marked, held -/
theorem s_eqGrid2 (a : GridT) (ha : a.small) : X_laws_eqGrid [gridV a, gridV a] [] = some (.bool true, []) := by
  have h1 := s_eqCellS a.cs a.cs ha.1 ha.1
  have h2 := s_eqCellS a.bk a.bk ha.2 ha.2
  simp at h1 h2
  simp +contextual -implicitDefEqProofs [X_laws_eqGrid, cutK_eq, retK_eq, h1, h2]
abbrev resV (k : Int) (g : GridT) : Value := .agg #[.int .i64 k, .int .i64 g.r, .int .i64 g.w, frS eC g.cs, frS eC g.bk]
theorem s_eqGridResult (k : Int) (g : GridT) (hg : g.small) : X_laws_eqGridResult [resV k g, resV k g] [] = some (.bool true, []) := by
  have h := s_eqGrid2 g hg
  simp +contextual -implicitDefEqProofs [X_laws_eqGridResult, cutK_eq, retK_eq, h]
theorem s_markCellS_ro (t : Int) : X_laws_markCellS [roS 0 [], .int .i64 t] [] = some (.int .i64 t, []) := by
  have h : L_laws_markCellS 0 QQ 0 [roS 0 [], .int .i64 t, .int .i64 0] [] = some (.int .i64 t, []) := by
    obtain ⟨q, hq⟩ : ∃ n, QQ = n + 1 := ⟨QQ - 1, by unfold QQ; omega⟩
    rw [hq]
    simp +contextual -implicitDefEqProofs [L_laws_markCellS, retK_eq, cutK_eq]
  simp +contextual -implicitDefEqProofs [X_laws_markCellS, retK_eq, cutK_eq, h]
theorem s_markGridE (g : GridT) (t : Int) (hg : g.small) (hb : g.bk = []) (h0 : 0 ≤ t) (h1 : t ≤ 10000000000) : X_laws_markGrid [gridE g 0, .int .i64 t] [ownB eC g.cs] = some (.int .i64 (upG g t), [ownB eC (markG g t).cs]) := by
  obtain ⟨g1, g2⟩ := hg
  have c1 := s_markCellS g.cs t g1 h0 (by omega)
  simp +contextual -implicitDefEqProofs [X_laws_markGrid, retK_eq, cutK_eq, c1, s_markCellS_ro, upG, markG, hb, upC]
theorem s_markGridResult (g : GridT) (t : Int) (hg : g.small) (h0 : 0 ≤ t) (h1 : t ≤ 10000000000) : X_laws_markGridResult [resO g 0 1, .int .i64 t] [ownB eC g.cs, ownB eC g.bk] = some (.int .i64 (upG g t), [ownB eC (markG g t).cs, ownB eC (markG g t).bk]) := by
  have c := s_markGrid g t hg h0 h1
  simp +contextual -implicitDefEqProofs [X_laws_markGridResult, retK_eq, cutK_eq, c]
theorem s_markGridResultE (g : GridT) (t : Int) (hg : g.small) (hb : g.bk = []) (h0 : 0 ≤ t) (h1 : t ≤ 10000000000) : X_laws_markGridResult [resE g 0, .int .i64 t] [ownB eC g.cs] = some (.int .i64 (upG g t), [ownB eC (markG g t).cs]) := by
  have c := s_markGridE g t hg hb h0 h1
  simp +contextual -implicitDefEqProofs [X_laws_markGridResult, retK_eq, cutK_eq, c]
theorem s_markGridResultZ (k t : Int) : X_laws_markGridResult [resZ k, .int .i64 t] [] = some (.int .i64 t, []) := by
  have c := s_markGridZ ⟨0, 0, [], []⟩ t rfl rfl
  simp [upG, upC] at c
  simp +contextual -implicitDefEqProofs [X_laws_markGridResult, retK_eq, cutK_eq, c]
theorem s_heldGridResult (k : Int) (g : GridT) (t : Int) (hg : g.small) (h0 : 0 ≤ t) (h1 : t ≤ 10000000000) : X_laws_heldGridResult [resV k (markG g t), .int .i64 t] [] = some (.int .i64 (upG g t), []) := by
  have c := s_heldGrid g t hg h0 h1
  have := upG_pos g h0
  simp +contextual -implicitDefEqProofs [X_laws_heldGridResult, retK_eq, cutK_eq, c, this]
end Go.Ab
