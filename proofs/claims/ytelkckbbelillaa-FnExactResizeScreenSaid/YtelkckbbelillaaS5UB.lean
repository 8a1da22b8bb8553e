/- What the functions of the program answer, for all arguments that the theorems name as conditions. -/
import Derived.Test.YtelkckbbelillaaS5UA
import Derived.Test.YtelkckbbelillaaS5G6
namespace Go.Ab
open Go.Proofs
set_option linter.unusedSimpArgs false
set_option linter.unusedVariables false
set_option maxHeartbeats 8000000

/-! ## FnExactResizeScreen -/
theorem rs_small {s : ScrT} {rows v : Int} (hf : faultS s = 0) (ho : szB rows v = true) : (rsS s rows v).small ∧ (rsS s rows v).tabs.length = v.toNat := by
  obtain ⟨hg, _, _⟩ := scr_facts hf
  obtain ⟨t1, t2, r1, r2, r3, r4⟩ := scr_tabs hf
  obtain ⟨R, W, S, V, e, g1, g2, rfl, rfl, g5, g6, g7, g8, g9, g10, g11, g12, g13, g14, g15, g16⟩ := re_facts hg ho
  have hl : (rsT s V).length = V := rsT_len s V
  have m1 : S * V ≤ 6 * 12 := Nat.mul_le_mul g10 g12
  have m2 : e * V ≤ 5 * 12 := Nat.mul_le_mul g15 g12
  have c1 : (reG s.g S V).cs.length ≤ S * V := by simp [reG]; omega
  have c2 : (reB s.g V).length = e * V := by simp [reB, widN_len, g2, g16]
  refine ⟨⟨⟨?_, ?_⟩, ?_, ?_⟩, ?_⟩
  · show (reG s.g S V).cs.length < _
    omega
  · show (reB s.g V).length < _
    omega
  · show (rsT s (V : Int).toNat).length < _
    rw [Int.toNat_natCast]
    omega
  · show s.sets.length < _
    omega
  · show (rsT s (V : Int).toNat).length = _
    rw [Int.toNat_natCast]
    exact hl
theorem rs_impl (s : ScrT) (rows v : Int) (hs : s.small) (hf : faultS s = 0) (ho : szB rows v = true) : ∃ (p1 : List CellT) (p2 : List Bool) (cC cT : Nat), X_impl_ResizeScreen (rsA s rows v) [] = some (srW (rsS s rows v) 0 (rsS s rows v).g.cs.length cC (rsS s rows v).g.bk.length (rsS s rows v).tabs.length cT (rsS s rows v).sets.length, [ownB eC ((rsS s rows v).g.cs ++ p1), ownB eC (rsS s rows v).g.bk, ownB eB ((rsS s rows v).tabs ++ p2), ownB eI6 (rsS s rows v).sets]) := by
  have h := s_impl_ResizeScreen s rows v hs hf ho
  have hl := (rs_small hf ho).2
  refine ⟨(reC s.g rows v).drop (rows.toNat * v.toNat), (s.tabs ++ tabL s.tabs.length (v.toNat - s.tabs.length)).drop v.toNat, (reC s.g rows v).length, s.tabs.length + (v.toNat - s.tabs.length), ?_⟩
  rw [hl]
  have e1 : (rsS s rows v).g.cs ++ (reC s.g rows v).drop (rows.toNat * v.toNat) = reC s.g rows v := List.take_append_drop _ _
  have e2 : (rsS s rows v).tabs ++ (s.tabs ++ tabL s.tabs.length (v.toNat - s.tabs.length)).drop v.toNat = s.tabs ++ tabL s.tabs.length (v.toNat - s.tabs.length) := List.take_append_drop _ _
  rw [e1, e2]
  exact h
theorem can_sr3 (S : ScrT) (nC cC nT nS : Nat) (C : List CellT) (T : List Bool) (SS : List Int) : Can (srO S (slO 0 nC) (.slice none 0 0) (slO 1 nT) (slO 2 nS)) [ownB eC C, ownB eB T, ownB eI6 SS] := ⟨by simp, by simp, by simp⟩
theorem rn_sr3 (S : ScrT) (nC nT nS N : Nat) : rnV 8 hard (sft N 3) (srO S (slO 0 nC) (.slice none 0 0) (slO 1 nT) (slO 2 nS)) = some (srO S (slO N nC) (.slice none 0 0) (slO (N + 1) nT) (slO (N + 2) nS)) := by simp
theorem fz_sr3 (S : ScrT) (hb : S.g.bk = []) : fz 64 [ownB eC S.g.cs, ownB eB S.tabs, ownB eI6 S.sets] (srO S (slO 0 S.g.cs.length) (.slice none 0 0) (slO 1 S.tabs.length) (slO 2 S.sets.length)) = some (srV 0 S (frS eC S.g.bk)) := by
  rw [hb]
  simp [frS_nil]
theorem fz_srM (S : ScrT) (cC cT : Nat) (p1 : List CellT) (p2 : List Bool) : fz 64 [ownB eC ((markS S 1).g.cs ++ p1), ownB eC (markS S 1).g.bk, ownB eB ((markS S 1).tabs ++ p2), ownB eI6 (markS S 1).sets] (srW S 0 S.g.cs.length cC S.g.bk.length S.tabs.length cT S.sets.length) = some (srV 0 (markS S 1) (frS eC (markS S 1).g.bk)) := by
  have h := fz_sr (markS S 1) cC cT p1 p2
  simp only [markS, markG, markC_len, markBo_len, markI_len] at h ⊢
  exact h
theorem up_pos (S : ScrT) : 0 ≤ upS S 1 := by
  have := upG_eq S.g 1
  unfold upS
  omega
abbrev nilV : Value := .slice none 0 0
theorem s_FnExactResizeScreen (s : ScrT) (rows v : Int) (hfit : s.fit) : X_laws_FnExactResizeScreen [scrV s, .int .i64 rows, .int .i64 v] [] = some (.bool true, []) := by
  have S0 := s_szScreen s 1048576 hfit (by omega) (by omega)
  by_cases h0 : s.szl 1048576 < 0
  · simp (maxSteps := 2000000) -implicitDefEqProofs [X_laws_FnExactResizeScreen, retK_eq, S0, h0]
  have hs := szs_small (by omega) h0
  have bad : ∀ c, X_spec_ResizeScreen (rsA s rows v) [] = some (srB c, []) → X_impl_ResizeScreen (rsA s rows v) [] = some (srB c, []) → X_laws_FnExactResizeScreen [scrV s, .int .i64 rows, .int .i64 v] [] = some (.bool true, []) := fun c S I =>
    law_core s rows v hs S0 h0 c z0S z0S nilV nilV nilV nilV nilV nilV nilV nilV (srV c z0S (frS eC [])) (srV c z0S (frS eC [])) (fun _ => nilV) (fun _ => nilV) (fun _ => nilV) (fun _ => nilV) (fun _ => nilV) (fun _ => nilV) (fun _ => nilV) (fun _ => nilV) [] [] [] 1 (by omega) (up_pos s) (fun _ => ⟨rfl, rfl, rfl, rfl⟩) (fun _ => ⟨rfl, rfl, rfl, rfl⟩) S (can_z c) hd_nil (rn_z c) (fz_z c) I (can_z c) hd_nil (rn_z c) (fz_z c) (s_eqScreenResult c z0S z0S_small) (s_markScreenResultZ c 1) (can_z c) rfl (fz_z c) (s_heldScreenResultZ c)
  by_cases hf : faultS s = 0
  · cases ho : szB rows v
    · exact bad 3 (s_spec_ResizeScreen_3 s rows v hs hf ho) (s_impl_ResizeScreen_3 s rows v hs hf ho)
    · obtain ⟨hS, hl⟩ := rs_small hf ho
      obtain ⟨p1, p2, cC, cT, I⟩ := rs_impl s rows v hs hf ho
      obtain ⟨bv, bm, hb, S⟩ := s_spec_ResizeScreen s rows v hs hf ho
      have eT : rsT s v.toNat = (rsS s rows v).tabs := rfl
      have eC' : (reG s.g rows v).cs = (rsS s rows v).g.cs := rfl
      have eB' : reB s.g v = (rsS s rows v).g.bk := rfl
      have eS : s.sets = (rsS s rows v).sets := rfl
      rw [eT, eC', eS, ← hl] at S
      rw [eB'] at hb
      generalize rsS s rows v = G at *
      have core := fun (z2 z3 z4 : Value) (bS dS eS' : Nat → Value) (MS : Mem) => law_core s rows v hs S0 h0 0 G G (slO 0 G.g.cs.length) z2 z3 z4 (slQ 0 0 G.g.cs.length cC) (slO 1 G.g.bk.length) (slQ 2 0 G.tabs.length cT) (slO 3 G.sets.length) (srV 0 G (frS eC G.g.bk)) (srV 0 (markS G 1) (frS eC (markS G 1).g.bk)) (fun k => slO k G.g.cs.length) bS dS eS' (fun k => slQ k 0 G.g.cs.length cC) (fun k => slO (k + 1) G.g.bk.length) (fun k => slQ (k + 2) 0 G.tabs.length cT) (fun k => slO (k + 3) G.sets.length) MS [ownB eC (G.g.cs ++ p1), ownB eC G.g.bk, ownB eB (G.tabs ++ p2), ownB eI6 G.sets] [ownB eC ((markS G 1).g.cs ++ p1), ownB eC (markS G 1).g.bk, ownB eB ((markS G 1).tabs ++ p2), ownB eI6 (markS G 1).sets] (upS G 1) (up_pos G) (up_pos s)
      have E := s_eqScreenResult 0 G hS
      have K := s_markScreenResultQ G p1 p2 cC cT 1 hS (by omega) (by omega)
      have HH := s_heldScreenResult 0 G 1 hS (by omega) (by omega)
      have canI := can_sr G G.g.cs.length cC G.g.bk.length G.tabs.length cT G.sets.length (G.g.cs ++ p1) G.g.bk (G.tabs ++ p2) G.sets
      have canK := can_sr G G.g.cs.length cC G.g.bk.length G.tabs.length cT G.sets.length ((markS G 1).g.cs ++ p1) (markS G 1).g.bk ((markS G 1).tabs ++ p2) (markS G 1).sets
      rcases hb with ⟨hb, rfl, rfl⟩ | ⟨hb, rfl, rfl⟩
      · exact core nilV (slO 1 G.tabs.length) (slO 2 G.sets.length) (fun _ => nilV) (fun k => slO (k + 1) G.tabs.length) (fun k => slO (k + 2) G.sets.length) [ownB eC G.g.cs, ownB eB G.tabs, ownB eI6 G.sets] (fun _ => ⟨rfl, rfl, rfl, rfl⟩) (fun _ => ⟨rfl, rfl, rfl, rfl⟩) S (can_sr3 G _ 0 _ _ _ _ _) (hd_3 _ _ _) (rn_sr3 G _ _ _) (fz_sr3 G hb) I canI (hd_4 _ _ _ _) (rn_sr G _ _ _ _ _ _) (fz_sr G cC cT p1 p2) E K canK rfl (fz_srM G cC cT p1 p2) HH
      · have fS := fz_sr G G.g.cs.length G.tabs.length [] []
        rw [List.append_nil, List.append_nil] at fS
        exact core (slO 1 G.g.bk.length) (slO 2 G.tabs.length) (slO 3 G.sets.length) (fun k => slO (k + 1) G.g.bk.length) (fun k => slO (k + 2) G.tabs.length) (fun k => slO (k + 3) G.sets.length) [ownB eC G.g.cs, ownB eC G.g.bk, ownB eB G.tabs, ownB eI6 G.sets] (fun _ => ⟨rfl, rfl, rfl, rfl⟩) (fun _ => ⟨rfl, rfl, rfl, rfl⟩) S (can_sr G _ _ _ _ _ _ _ _ _ _) (hd_4 _ _ _ _) (rn_sr G _ _ _ _ _ _) fS I canI (hd_4 _ _ _ _) (rn_sr G _ _ _ _ _ _) (fz_sr G cC cT p1 p2) E K canK rfl (fz_srM G cC cT p1 p2) HH
  · exact bad _ (s_spec_ResizeScreen_bad s rows v hs hf) (s_impl_ResizeScreen_bad s rows v hs hf)
theorem all_FnExactResizeScreen : ∀ xs, TypedAll CT [47, 2, 2] xs → Fz CT 5 xs (.bool true)
  | [a, b, c], h => by
    obtain ⟨s, rfl, hs, _⟩ := typed_screen h.1
    obtain ⟨r, rfl, _⟩ := typed_int h.2.1 (q := .i64) rfl
    obtain ⟨w, rfl, _⟩ := typed_int h.2.2.1 (q := .i64) rfl
    exact fz_law ok_X_laws_FnExactResizeScreen (s_FnExactResizeScreen s r w hs) (by simp)
  | [], h => h.elim
  | [_], h => h.2.elim
  | [_, _], h => h.2.2.elim
  | _ :: _ :: _ :: _ :: _, h => h.2.2.2.elim
end Go.Ab
