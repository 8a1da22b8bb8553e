/- What the functions of the program answer, for all arguments that the theorems name as conditions. -/
import Derived.Test.YtelkckbbelillaaS5U8
namespace Go.Ab
set_option linter.unusedSimpArgs false
set_option linter.unusedVariables false
set_option maxHeartbeats 4000000

/-! ## The same result; results that are faults -/
theorem s_eqScreenResult (k : Int) (s : ScrT) (hs : s.small) : X_laws_eqScreenResult [srV k s (frS eC s.g.bk), srV k s (frS eC s.g.bk)] [] = some (.bool true, []) := by
  have h1 := s_eqScreen s hs
  simp (maxSteps := 2000000) +contextual -implicitDefEqProofs [X_laws_eqScreenResult, cutK_eq, retK_eq, h1]
def z0S : ScrT := ⟨⟨0, 0, [], []⟩, 0, 0, false, 0, 0, 0, false, false, false, [], 0, 0, 0, [], 0, 0⟩
theorem z0S_small : z0S.small := by simp [ScrT.small, GridT.small, z0S]
theorem z0S_mark : markS z0S 1 = z0S ∧ upS z0S 1 = 1 := ⟨rfl, rfl⟩
theorem s_markScreenResultZ (c t : Int) : X_laws_markScreenResult [srB c, .int .i64 t] [] = some (.int .i64 t, []) := by
  have h0 : X_laws_markGrid [.agg #[.int .i64 0, .int .i64 0, .slice none 0 0, .slice none 0 0], .int .i64 t] [] = some (.int .i64 t, []) := by
    simp +contextual -implicitDefEqProofs [X_laws_markGrid, retK_eq, cutK_eq, s_markCellS_nil]
  have h1 : X_laws_markScreen [.agg zS.toArray, .int .i64 t] [] = some (.int .i64 t, []) := by
    simp (maxSteps := 400000) -implicitDefEqProofs [X_laws_markScreen, retK_eq, cutK_eq, h0, s_markBoolS_nil, s_markInt64S_nil]
  simp (maxSteps := 400000) -implicitDefEqProofs [X_laws_markScreenResult, retK_eq, cutK_eq, h1]
theorem s_heldScreenResultZ (c : Int) : X_laws_heldScreenResult [srV c z0S (frS eC []), .int .i64 1] [] = some (.int .i64 1, []) := by
  have h := s_heldScreenResult c z0S 1 z0S_small (by omega) (by omega)
  rw [z0S_mark.1, z0S_mark.2] at h
  exact h
theorem can_z (c : Int) : Can (srB c) [] := ⟨by simp, by simp, by simp⟩
theorem rn_z (c : Int) (N : Nat) : rnV 8 hard (sft N 0) (srB c) = some (srB c) := by simp
theorem fz_z (c : Int) : fz 64 [] (srB c) = some (srV c z0S (frS eC [])) := by simp [z0S, frS_nil]
theorem fz_scrV (s : ScrT) (m : Mem) : fz 64 m (scrV s) = some (scrV s) := by simp
theorem n_toScreen (s : ScrT) (hs : s.small) (m : Mem) : ∃ k m', k = m.length ∧ fcall X_laws_toScreen [scrV s] m = some (scW s k s.g.cs.length s.g.cs.length s.g.bk.length s.tabs.length s.tabs.length s.sets.length, m') ∧ m'.length = m.length + [ownB eC s.g.cs, ownB eC s.g.bk, ownB eB s.tabs, ownB eI6 s.sets].length ∧ (∀ n, n < m.length → m'[n]? = m[n]?) ∧ Has m' (scW s k s.g.cs.length s.g.cs.length s.g.bk.length s.tabs.length s.tabs.length s.sets.length) (List.range' k [ownB eC s.g.cs, ownB eC s.g.bk, ownB eB s.tabs, ownB eI6 s.sets].length) (scW s 0 s.g.cs.length s.g.cs.length s.g.bk.length s.tabs.length s.tabs.length s.sets.length) [ownB eC s.g.cs, ownB eC s.g.bk, ownB eB s.tabs, ownB eI6 s.sets] :=
  Has.new (X := X_laws_toScreen) (fr := [scrV s]) (F := fun k => scW s k s.g.cs.length s.g.cs.length s.g.bk.length s.tabs.length s.tabs.length s.sets.length) (mapO1 (fz_scrV s m)) (s_toScreen s hs) (can_sc s _ _ _ _ _ _ _ _ _ _) (hd_4 _ _ _ _) (fun N => rn_sc s _ _ _ _ _ _ N)
theorem fz_scO (s : ScrT) : fz 64 [ownB eC s.g.cs, ownB eC s.g.bk, ownB eB s.tabs, ownB eI6 s.sets] (scW s 0 s.g.cs.length s.g.cs.length s.g.bk.length s.tabs.length s.tabs.length s.sets.length) = some (scrV s) := by
  simp
theorem s_markScreenO (s : ScrT) (hs : s.small) : X_laws_markScreen [scW s 0 s.g.cs.length s.g.cs.length s.g.bk.length s.tabs.length s.tabs.length s.sets.length, .int .i64 1] [ownB eC s.g.cs, ownB eC s.g.bk, ownB eB s.tabs, ownB eI6 s.sets] = some (.int .i64 (upS s 1), [ownB eC (markS s 1).g.cs, ownB eC (markS s 1).g.bk, ownB eB (markS s 1).tabs, ownB eI6 (markS s 1).sets]) := by
  have h := s_markScreenQ s [] [] s.g.cs.length s.tabs.length 1 hs (by omega) (by omega)
  simp only [List.append_nil] at h
  exact h
theorem can_mS (s : ScrT) : Can (scW s 0 s.g.cs.length s.g.cs.length s.g.bk.length s.tabs.length s.tabs.length s.sets.length) [ownB eC (markS s 1).g.cs, ownB eC (markS s 1).g.bk, ownB eB (markS s 1).tabs, ownB eI6 (markS s 1).sets] := can_sc s _ _ _ _ _ _ _ _ _ _
theorem fz_mS (s : ScrT) : fz 64 [ownB eC (markS s 1).g.cs, ownB eC (markS s 1).g.bk, ownB eB (markS s 1).tabs, ownB eI6 (markS s 1).sets] (scW s 0 s.g.cs.length s.g.cs.length s.g.bk.length s.tabs.length s.tabs.length s.sets.length) = some (scrV (markS s 1)) := by
  have h := fz_scO (markS s 1)
  simp only [markS, markG, markC_len, markBo_len, markI_len] at h ⊢
  exact h
end Go.Ab
