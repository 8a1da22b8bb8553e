/- What the functions of the program answer, for all arguments that the theorems name as conditions. -/
import Derived.Test.YtelkckbbelillaaS5U7
import Derived.Test.YtelkckbbelillaaFD
namespace Go.Ab
set_option linter.unusedSimpArgs false
set_option linter.unusedVariables false
set_option maxHeartbeats 4000000

/-! ## Screens as things; their marks -/
abbrev srV (k : Int) (S : ScrT) (bv : Value) : Value := .agg (.int .i64 k :: scrL S (frS eC S.g.cs) bv (frS eB S.tabs) (frS eI6 S.sets)).toArray
theorem hd_4 (C B : List CellT) (T : List Bool) (SS : List Int) : HdM [ownB eC C, ownB eC B, ownB eB T, ownB eI6 SS] := fun N => ⟨[ownB eC C, ownB eC B, ownB eB T, ownB eI6 SS], by
  simp only [mapB, shB_own eC eC_hard, shB_own eB eB_hard, shB_own eI6 (eI_hard .i64)]
  rfl⟩
theorem hd_3 (C : List CellT) (T : List Bool) (SS : List Int) : HdM [ownB eC C, ownB eB T, ownB eI6 SS] := fun N => ⟨[ownB eC C, ownB eB T, ownB eI6 SS], by
  simp only [mapB, shB_own eC eC_hard, shB_own eB eB_hard, shB_own eI6 (eI_hard .i64)]
  rfl⟩
abbrev scW (S : ScrT) (k nC cC nB nT cT nS : Nat) : Value := .agg (scrL S (slQ k 0 nC cC) (slO (k + 1) nB) (slQ (k + 2) 0 nT cT) (slO (k + 3) nS)).toArray
abbrev srW (S : ScrT) (k nC cC nB nT cT nS : Nat) : Value := srO S (slQ k 0 nC cC) (slO (k + 1) nB) (slQ (k + 2) 0 nT cT) (slO (k + 3) nS)
theorem can_sc (S : ScrT) (nC cC nB nT cT nS : Nat) (C B : List CellT) (T : List Bool) (SS : List Int) : Can (scW S 0 nC cC nB nT cT nS) [ownB eC C, ownB eC B, ownB eB T, ownB eI6 SS] := ⟨by simp, by simp, by simp⟩
theorem can_sr (S : ScrT) (nC cC nB nT cT nS : Nat) (C B : List CellT) (T : List Bool) (SS : List Int) : Can (srW S 0 nC cC nB nT cT nS) [ownB eC C, ownB eC B, ownB eB T, ownB eI6 SS] := ⟨by simp, by simp, by simp⟩
theorem rn_sc (S : ScrT) (nC cC nB nT cT nS N : Nat) : rnV 8 hard (sft N 4) (scW S 0 nC cC nB nT cT nS) = some (scW S N nC cC nB nT cT nS) := by simp
theorem rn_sr (S : ScrT) (nC cC nB nT cT nS N : Nat) : rnV 8 hard (sft N 4) (srW S 0 nC cC nB nT cT nS) = some (srW S N nC cC nB nT cT nS) := by simp
theorem fz_postC (l post : List CellT) (k : Nat) (m : Mem) : fzO (k + 1) m (some (ownB eC (l ++ post))) 0 l.length = some (frS eC l) := by
  have h := fzO_part eC k m (l := l ++ post) (o := 0) (a := 0) (len := l.length) (by simp) (by simp)
  simpa using h
theorem fz_postB (l post : List Bool) (k : Nat) (m : Mem) : fzO (k + 1) m (some (ownB eB (l ++ post))) 0 l.length = some (frS eB l) := by
  have h := fzO_part eB k m (l := l ++ post) (o := 0) (a := 0) (len := l.length) (by simp) (by simp)
  simpa using h
theorem fz_sc (S : ScrT) (cC cT : Nat) (p1 : List CellT) (p2 : List Bool) : fz 64 [ownB eC (S.g.cs ++ p1), ownB eC S.g.bk, ownB eB (S.tabs ++ p2), ownB eI6 S.sets] (scW S 0 S.g.cs.length cC S.g.bk.length S.tabs.length cT S.sets.length) = some (scrV S) := by
  have h1 := fun k m => fz_postC S.g.cs p1 k m
  have h2 := fun k m => fz_postB S.tabs p2 k m
  simp [h1, h2]
theorem fz_sr (S : ScrT) (cC cT : Nat) (p1 : List CellT) (p2 : List Bool) : fz 64 [ownB eC (S.g.cs ++ p1), ownB eC S.g.bk, ownB eB (S.tabs ++ p2), ownB eI6 S.sets] (srW S 0 S.g.cs.length cC S.g.bk.length S.tabs.length cT S.sets.length) = some (srV 0 S (frS eC S.g.bk)) := by
  have h1 := fun k m => fz_postC S.g.cs p1 k m
  have h2 := fun k m => fz_postB S.tabs p2 k m
  simp [h1, h2]
def upS (S : ScrT) (t : Int) : Int := upG S.g t + S.tabs.length + S.sets.length
def markS (S : ScrT) (t : Int) : ScrT := { S with g := markG S.g t, tabs := markBo (upG S.g t) S.tabs.length, sets := markI (upG S.g t + S.tabs.length) S.sets.length }
theorem upG_eq (g : GridT) (t : Int) : upG g t = t + 2 * g.cs.length + 2 * g.bk.length := by
  unfold upG
  rw [upC_eq, upC_eq]
theorem s_markGridQ (g : GridT) (post : List CellT) (c : Nat) (t : Int) (hg : g.small) (h0 : 0 ≤ t) (h1 : t ≤ 10000000000) : X_laws_markGrid [.agg #[.int .i64 g.r, .int .i64 g.w, slQ 0 0 g.cs.length c, slO 1 g.bk.length], .int .i64 t] [ownB eC (g.cs ++ post), ownB eC g.bk] = some (.int .i64 (upG g t), [ownB eC ((markG g t).cs ++ post), ownB eC (markG g t).bk]) := by
  obtain ⟨g1, g2⟩ := hg
  have c1 := s_markCellP [] post g.cs c t g1 h0 (by omega)
  have c2 := s_markCellS g.bk (upC t g.cs.length) g2 (by rw [upC_eq]; omega) (by rw [upC_eq]; omega)
  simp at c1 c2
  simp +contextual -implicitDefEqProofs [X_laws_markGrid, retK_eq, cutK_eq, c1, c2, upG, markG]
theorem s_markScreenQ (S : ScrT) (p1 : List CellT) (p2 : List Bool) (cC cT : Nat) (t : Int) (hs : S.small) (h0 : 0 ≤ t) (h1 : t ≤ 10000000000) : X_laws_markScreen [scW S 0 S.g.cs.length cC S.g.bk.length S.tabs.length cT S.sets.length, .int .i64 t] [ownB eC (S.g.cs ++ p1), ownB eC S.g.bk, ownB eB (S.tabs ++ p2), ownB eI6 S.sets] = some (.int .i64 (upS S t), [ownB eC ((markS S t).g.cs ++ p1), ownB eC (markS S t).g.bk, ownB eB ((markS S t).tabs ++ p2), ownB eI6 (markS S t).sets]) := by
  obtain ⟨hg, ht, hss⟩ := hs
  have c1 := s_markGridQ S.g p1 cC t hg h0 h1
  have b := upG_eq S.g t
  obtain ⟨g1, g2⟩ := hg
  have c2 := s_markBoolS S.tabs p2 cT (upG S.g t) ht (by omega) (by omega)
  have c3 := s_markInt64S S.sets (upG S.g t + S.tabs.length) hss (by omega) (by omega)
  simp (maxSteps := 400000) -implicitDefEqProofs [X_laws_markScreen, retK_eq, cutK_eq, c1, c2, c3, upS, markS]
theorem s_markScreenResultQ (S : ScrT) (p1 : List CellT) (p2 : List Bool) (cC cT : Nat) (t : Int) (hs : S.small) (h0 : 0 ≤ t) (h1 : t ≤ 10000000000) : X_laws_markScreenResult [srW S 0 S.g.cs.length cC S.g.bk.length S.tabs.length cT S.sets.length, .int .i64 t] [ownB eC (S.g.cs ++ p1), ownB eC S.g.bk, ownB eB (S.tabs ++ p2), ownB eI6 S.sets] = some (.int .i64 (upS S t), [ownB eC ((markS S t).g.cs ++ p1), ownB eC (markS S t).g.bk, ownB eB ((markS S t).tabs ++ p2), ownB eI6 (markS S t).sets]) := by
  have c1 := s_markScreenQ S p1 p2 cC cT t hs h0 h1
  simp (maxSteps := 400000) -implicitDefEqProofs [X_laws_markScreenResult, retK_eq, cutK_eq, c1]
theorem s_heldScreen (S : ScrT) (t : Int) (hs : S.small) (h0 : 0 ≤ t) (h1 : t ≤ 10000000000) : X_laws_heldScreen [scrV (markS S t), .int .i64 t] [] = some (.int .i64 (upS S t), []) := by
  obtain ⟨hg, ht, hss⟩ := hs
  have c1 := s_heldGrid S.g t hg h0 h1
  have b := upG_eq S.g t
  obtain ⟨g1, g2⟩ := hg
  have c2 := s_heldBoolS S.tabs.length (upG S.g t) ht (by omega) (by omega)
  have c3 := s_heldInt64S S.sets.length (upG S.g t + S.tabs.length) hss (by omega) (by omega)
  have u1 : ¬ upG S.g t < 0 := by omega
  have u2 : ¬ upG S.g t + (S.tabs.length : Int) < 0 := by omega
  have u3 : ¬ upG S.g t + (S.tabs.length : Int) + S.sets.length < 0 := by omega
  simp only [markS]
  simp (maxSteps := 400000) -implicitDefEqProofs [X_laws_heldScreen, retK_eq, cutK_eq, c1, c2, c3, upS, markS, u1, u2, u3]
theorem s_heldScreenResult (k : Int) (S : ScrT) (t : Int) (hs : S.small) (h0 : 0 ≤ t) (h1 : t ≤ 10000000000) : X_laws_heldScreenResult [srV k (markS S t) (frS eC (markS S t).g.bk), .int .i64 t] [] = some (.int .i64 (upS S t), []) := by
  have c1 := s_heldScreen S t hs h0 h1
  have b := upG_eq S.g t
  have u3 : ¬ upS S t < 0 := by unfold upS; omega
  simp (maxSteps := 400000) -implicitDefEqProofs [X_laws_heldScreenResult, retK_eq, cutK_eq, c1, u3]
end Go.Ab
