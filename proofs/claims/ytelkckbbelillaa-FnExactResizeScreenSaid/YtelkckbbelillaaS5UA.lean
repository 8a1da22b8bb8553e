/- What the functions of the program answer, for all arguments that the theorems name as conditions. -/
import Derived.Test.YtelkckbbelillaaS5U9
namespace Go.Ab
set_option linter.unusedSimpArgs false
set_option linter.unusedVariables false
set_option maxHeartbeats 40000000
abbrev rsv (c : Int) (S : ScrT) (a b d e : Value) : Value := .agg (.int .i64 c :: scrL S a b d e).toArray
theorem law_core (s : ScrT) (rows v : Int) (hs : s.small) (S0 : X_laws_szScreen [scrV s, .int .i64 1048576] [] = some (.int .i64 (s.szl 1048576), [])) (h0 : ¬ s.szl 1048576 < 0) (c : Int) (TS TI : ScrT) (z1 z2 z3 z4 y1 y2 y3 y4 W W' : Value) (aS bS dS eS aI bI dI eI : Nat → Value) (MS MI MK : Mem) (qq : Int) (hq : 0 ≤ qq) (hup : 0 ≤ upS s 1)
    (fS : ∀ k, flat (aS k) = true ∧ flat (bS k) = true ∧ flat (dS k) = true ∧ flat (eS k) = true) (fI : ∀ k, flat (aI k) = true ∧ flat (bI k) = true ∧ flat (dI k) = true ∧ flat (eI k) = true)
    (S : X_spec_ResizeScreen (rsA s rows v) [] = some (rsv c TS z1 z2 z3 z4, MS)) (canS : Can (rsv c TS z1 z2 z3 z4) MS) (hdS : HdM MS) (rnS : ∀ N, rnV 8 hard (sft N MS.length) (rsv c TS z1 z2 z3 z4) = some (rsv c TS (aS N) (bS N) (dS N) (eS N))) (fzS : fz 64 MS (rsv c TS z1 z2 z3 z4) = some W)
    (I : X_impl_ResizeScreen (rsA s rows v) [] = some (rsv c TI y1 y2 y3 y4, MI)) (canI : Can (rsv c TI y1 y2 y3 y4) MI) (hdI : HdM MI) (rnI : ∀ N, rnV 8 hard (sft N MI.length) (rsv c TI y1 y2 y3 y4) = some (rsv c TI (aI N) (bI N) (dI N) (eI N))) (fzI : fz 64 MI (rsv c TI y1 y2 y3 y4) = some W)
    (E : X_laws_eqScreenResult [W, W] [] = some (.bool true, []))
    (K : X_laws_markScreenResult [rsv c TI y1 y2 y3 y4, .int .i64 1] MI = some (.int .i64 qq, MK)) (canK : Can (rsv c TI y1 y2 y3 y4) MK) (lenK : MK.length = MI.length) (fzK : fz 64 MK (rsv c TI y1 y2 y3 y4) = some W') (HH : X_laws_heldScreenResult [W', .int .i64 1] [] = some (.int .i64 qq, [])) : X_laws_FnExactResizeScreen [scrV s, .int .i64 rows, .int .i64 v] [] = some (.bool true, []) := by
    obtain ⟨m1, hm1⟩ : ∃ M, ([blk (scrL s (frS eC s.g.cs) (frS eC s.g.bk) (frS eB s.tabs) (frS eI6 s.sets))] : Mem) = M := ⟨_, rfl⟩
    have l1 : m1.length = 1 := by rw [← hm1]; rfl
    have b1_1 : m1[0]? = some (blk (scrL s (frS eC s.g.cs) (frS eC s.g.bk) (frS eB s.tabs) (frS eI6 s.sets))) := by rw [← hm1]; rfl
    have e2 : fcall X_laws_szScreen [scrV s, .int .i64 1048576] m1 = some (.int .i64 (s.szl 1048576), m1) := f_ask (mapO2 (fz_scrV s _) (fz_int 63 _ .i64 1048576)) S0 rfl
    obtain ⟨k3, m3, q3, e3, l3, g3, H3⟩ := n_toScreen s hs m1
    have b1_3 := (g3 0 (by omega)).trans b1_1
    obtain ⟨k4, m4, q4, e4, l4, g4, H4⟩ := Has.new (X := X_spec_ResizeScreen) (F := fun k => rsv c TS (aS k) (bS k) (dS k) (eS k)) (m := m3) (mapO3 (H3.fz (fz_scO s)) (fz_int 63 _ .i64 rows) (fz_int 63 _ .i64 v)) S canS hdS rnS
    have b1_4 := (g4 0 (by omega)).trans b1_3
    obtain ⟨m5, hm5⟩ : ∃ M, m4 ++ [blk (.int .i64 c :: scrL TS (aS k4) (bS k4) (dS k4) (eS k4))] = M := ⟨_, rfl⟩
    have l5 := box_len hm5
    have g5 := box_grow hm5
    have H4 := H4.grow g5
    have b1_5 := (g5 0 (by omega)).trans b1_4
    have b5_5 := box_get hm5
    obtain ⟨k6, m6, q6, e6, l6, g6, H6⟩ := n_toScreen s hs m5
    have H4 := H4.grow g6
    have b1_6 := (g6 0 (by omega)).trans b1_5
    have b5_6 := (g6 m4.length (by omega)).trans b5_5
    obtain ⟨m7, hm7⟩ : ∃ M, m6 ++ [blk (scrL s (slQ k6 0 s.g.cs.length s.g.cs.length) (slO (k6 + 1) s.g.bk.length) (slQ (k6 + 2) 0 s.tabs.length s.tabs.length) (slO (k6 + 3) s.sets.length))] = M := ⟨_, rfl⟩
    have l7 := box_len hm7
    have g7 := box_grow hm7
    have H4 := H4.grow g7
    have H6 := H6.grow g7
    have b1_7 := (g7 0 (by omega)).trans b1_6
    have b5_7 := (g7 m4.length (by omega)).trans b5_6
    have b7_7 := box_get hm7
    obtain ⟨k8, m8, q8, e8, l8, g8, H8⟩ := Has.new (X := X_impl_ResizeScreen) (F := fun k => rsv c TI (aI k) (bI k) (dI k) (eI k)) (m := m7) (mapO3 (H6.fz (fz_scO s)) (fz_int 63 _ .i64 rows) (fz_int 63 _ .i64 v)) I canI hdI rnI
    have H4 := H4.grow g8
    have H6 := H6.grow g8
    have b1_8 := (g8 0 (by omega)).trans b1_7
    have b5_8 := (g8 m4.length (by omega)).trans b5_7
    have b7_8 := (g8 m6.length (by omega)).trans b7_7
    obtain ⟨m9, hm9⟩ : ∃ M, m8 ++ [blk (.int .i64 c :: scrL TI (aI k8) (bI k8) (dI k8) (eI k8))] = M := ⟨_, rfl⟩
    have l9 := box_len hm9
    have g9 := box_grow hm9
    have H4 := H4.grow g9
    have H6 := H6.grow g9
    have H8 := H8.grow g9
    have b1_9 := (g9 0 (by omega)).trans b1_8
    have b5_9 := (g9 m4.length (by omega)).trans b5_8
    have b7_9 := (g9 m6.length (by omega)).trans b7_8
    have b9_9 := box_get hm9
    have e10 : fcall X_laws_eqScreenResult [rsv c TI (aI k8) (bI k8) (dI k8) (eI k8), rsv c TS (aS k4) (bS k4) (dS k4) (eS k4)] m9 = some (.bool true, m9) := f_ask (mapO2 (H8.fz fzI) (H4.fz fzS)) E rfl
    obtain ⟨k11, m11, q11, e11, l11, g11, H11⟩ := n_toScreen s hs m9
    have H4 := H4.grow g11
    have H6 := H6.grow g11
    have H8 := H8.grow g11
    have b1_11 := (g11 0 (by omega)).trans b1_9
    have b5_11 := (g11 m4.length (by omega)).trans b5_9
    have b7_11 := (g11 m6.length (by omega)).trans b7_9
    have b9_11 := (g11 m8.length (by omega)).trans b9_9
    have e12 : fcall X_laws_eqScreen [scW s k6 s.g.cs.length s.g.cs.length s.g.bk.length s.tabs.length s.tabs.length s.sets.length, scW s k11 s.g.cs.length s.g.cs.length s.g.bk.length s.tabs.length s.tabs.length s.sets.length] m11 = some (.bool true, m11) := f_ask (mapO2 (H6.fz (fz_scO s)) (H11.fz (fz_scO s))) (s_eqScreen s hs) rfl
    obtain ⟨m13, e13, l13, g13, H6⟩ := H6.call (X := X_laws_markScreen) (rest := [.int .i64 1]) (s_markScreenO s hs) rfl rfl (can_mS s) rfl
    have H4 := H4.apart g13 (by omega)
    have H8 := H8.apart g13 (by omega)
    have b1_13 := (out_range g13 (n := 0) (by omega)).trans b1_11
    have b5_13 := (out_range g13 (n := m4.length) (by omega)).trans b5_11
    have b9_13 := (out_range g13 (n := m8.length) (by omega)).trans b9_11
    have e14 : fcall X_laws_eqScreenResult [rsv c TI (aI k8) (bI k8) (dI k8) (eI k8), rsv c TS (aS k4) (bS k4) (dS k4) (eS k4)] m13 = some (.bool true, m13) := f_ask (mapO2 (H8.fz fzI) (H4.fz fzS)) E rfl
    obtain ⟨m15, e15, l15, g15, H8⟩ := H8.call (X := X_laws_markScreenResult) (rest := [.int .i64 1]) K rfl rfl canK lenK
    have H4 := H4.apart g15 (by omega)
    have b1_15 := (out_range g15 (n := 0) (by omega)).trans b1_13
    have b5_15 := (out_range g15 (n := m4.length) (by omega)).trans b5_13
    have b9_15 := (out_range g15 (n := m8.length) (by omega)).trans b9_13
    have e16 : fcall X_laws_heldScreenResult [rsv c TI (aI k8) (bI k8) (dI k8) (eI k8), .int .i64 1] m15 = some (.int .i64 qq, m15) := f_ask (mapO2 (H8.fz fzK) (fz_int 63 _ .i64 1)) HH rfl
    obtain ⟨k17, m17, q17, e17, l17, g17, H17⟩ := n_toScreen s hs m15
    have H4 := H4.grow g17
    have H8 := H8.grow g17
    have b5_17 := (g17 m4.length (by omega)).trans b5_15
    have b9_17 := (g17 m8.length (by omega)).trans b9_15
    obtain ⟨k18, m18, q18, e18, l18, g18, H18⟩ := Has.new (X := X_impl_ResizeScreen) (F := fun k => rsv c TI (aI k) (bI k) (dI k) (eI k)) (m := m17) (mapO3 (H17.fz (fz_scO s)) (fz_int 63 _ .i64 rows) (fz_int 63 _ .i64 v)) I canI hdI rnI
    have H4 := H4.grow g18
    have H8 := H8.grow g18
    have b5_18 := (g18 m4.length (by omega)).trans b5_17
    have b9_18 := (g18 m8.length (by omega)).trans b9_17
    obtain ⟨m19, hm19⟩ : ∃ M, m18 ++ [blk (.int .i64 c :: scrL TI (aI k18) (bI k18) (dI k18) (eI k18))] = M := ⟨_, rfl⟩
    have l19 := box_len hm19
    have g19 := box_grow hm19
    have H4 := H4.grow g19
    have H8 := H8.grow g19
    have H18 := H18.grow g19
    have b5_19 := (g19 m4.length (by omega)).trans b5_18
    have b9_19 := (g19 m8.length (by omega)).trans b9_18
    have b19_19 := box_get hm19
    have e20 : fcall X_laws_eqScreenResult [rsv c TI (aI k18) (bI k18) (dI k18) (eI k18), rsv c TS (aS k4) (bS k4) (dS k4) (eS k4)] m19 = some (.bool true, m19) := f_ask (mapO2 (H18.fz fzI) (H4.fz fzS)) E rfl
    have e21 : fcall X_laws_heldScreenResult [rsv c TI (aI k8) (bI k8) (dI k8) (eI k8), .int .i64 1] m19 = some (.int .i64 qq, m19) := f_ask (mapO2 (H8.fz fzK) (fz_int 63 _ .i64 1)) HH rfl
    have u1 : ¬ upS s 1 < 0 := by omega
    have u2 : ¬ qq < 0 := by omega
    have fS1 := fun k => (fS k).1
    have fS2 := fun k => (fS k).2.1
    have fS3 := fun k => (fS k).2.2.1
    have fS4 := fun k => (fS k).2.2.2
    have fI1 := fun k => (fI k).1
    have fI2 := fun k => (fI k).2.1
    have fI3 := fun k => (fI k).2.2.1
    have fI4 := fun k => (fI k).2.2.2
    simp (maxSteps := 2000000) -implicitDefEqProofs [-fcall_eq, -rcall_eq, X_laws_FnExactResizeScreen, retK_eq, hm1, b1_1, e2, e3, e4, hm5, b1_5, e6, hm7, b7_7, e8, hm9, b9_9, b5_9, e10, b7_9, b1_9, e11, e12, b7_11, e13, b9_13, b5_13, e14, e15, b9_15, e16, b1_15, e17, e18, hm19, b19_19, b5_19, e20, b9_19, e21, h0, u1, u2, fS1, fS2, fS3, fS4, fI1, fI2, fI3, fI4]
end Go.Ab
