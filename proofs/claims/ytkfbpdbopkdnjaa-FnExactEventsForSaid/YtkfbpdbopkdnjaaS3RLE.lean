/- What the functions of the program answer, for all arguments that the theorems name as conditions. -/
import Derived.Test.YtkfbpdbopkdnjaaS3RL
namespace Go.Ab
set_option linter.unusedSimpArgs false
set_option linter.unusedVariables false
set_option maxHeartbeats 40000000
theorem law_ok (l : List EvT) (who : Int) (o : List EvT) (hon : o.length ≤ 1048576) (ho : ∀ x ∈ o, x.d.length < 1000000000) (huo : 1 ≤ upES 1 o) (huo2 : upES 1 o ≤ 100000000) (S0 : X_laws_szEventS [frS eEv l, .int .i64 1048576] [] = some (.int .i64 (szES l 1048576), [])) (h0 : ¬ szES l 1048576 < 0) (hn : l.length ≤ 1048576) (hb' : ∀ x ∈ l, x.d.length < 1000000000) (hup : 1 ≤ upES 1 l) (hu : upES 1 l ≤ 100000000) (S : X_spec_EventsFor [frS eEv l, .int .i64 who] [] = some (erO 0 0 o.length, memAE 1 o)) (I : X_impl_EventsFor [frS eEv l, .int .i64 who] [] = some (erO 0 0 o.length, memC 1 o)) : X_laws_FnExactEventsFor [frS eEv l, .int .i64 who] [] = some (.bool true, []) := by
    have hf := fzc_erC 0 (markES 1 o)
    rw [markES_len] at hf
    have e1 : fcall X_laws_szEventS [frS eEv l, .int .i64 1048576] [] = some (.int .i64 (szES l 1048576), []) := f_ask (mapO2 (fz_frS eEv 63 _ l) (fz_int 63 _ .i64 1048576)) S0 rfl
    obtain ⟨k2, m2, q2, e2, l2, g2, H2⟩ := n_toEventS l (by omega) hb' []
    obtain ⟨k3, m3, q3, e3, l3, g3, H3⟩ := Has.new (X := X_spec_EventsFor) (F := fun k => erO 0 k o.length) (m := m2) (mapO2 (H2.fz (fzc_AE l)) (fz_int 63 _ .i64 who)) S (can_agg (can_AE o (by omega))) (hd_AE o) (fun N => rnh_er 0 N _ _ (by simp))
    obtain ⟨m4, hm4⟩ : ∃ M, m3 ++ [blk [.int .i64 0, slO k3 o.length]] = M := ⟨_, rfl⟩
    have l4 := box_len hm4
    have g4 := box_grow hm4
    have H3 := H3.grow g4
    have b4_4 := box_get hm4
    obtain ⟨k5, m5, q5, e5, l5, g5, H5⟩ := n_toEventS l (by omega) hb' m4
    have H3 := H3.grow g5
    have b4_5 := (g5 m3.length (by omega)).trans b4_4
    obtain ⟨k6, m6, q6, e6, l6, g6, H6⟩ := Has.new (X := X_impl_EventsFor) (F := fun k => erO 0 k o.length) (m := m5) (mapO2 (H5.fz (fzc_AE l)) (fz_int 63 _ .i64 who)) I (can_agg (can_C o (by omega))) (hd_C o) (fun N => rnh_er 0 N _ _ (by simp))
    have H3 := H3.grow g6
    have H5 := H5.grow g6
    have b4_6 := (g6 m3.length (by omega)).trans b4_5
    obtain ⟨m7, hm7⟩ : ∃ M, m6 ++ [blk [.int .i64 0, slO k6 o.length]] = M := ⟨_, rfl⟩
    have l7 := box_len hm7
    have g7 := box_grow hm7
    have H3 := H3.grow g7
    have H5 := H5.grow g7
    have H6 := H6.grow g7
    have b4_7 := (g7 m3.length (by omega)).trans b4_6
    have b7_7 := box_get hm7
    have e8 : fcall X_laws_eqEventsResult [erO 0 k6 o.length, erO 0 k3 o.length] m7 = some (.bool true, m7) := f_ask (mapO2 (H6.fz (fzc_erC 0 o)) (H3.fz (fzc_erE 0 o))) (s_eqEventsResult 0 o (by omega) ho) rfl
    obtain ⟨k9, m9, q9, e9, l9, g9, H9⟩ := n_toEventS l (by omega) hb' m7
    have H3 := H3.grow g9
    have H5 := H5.grow g9
    have H6 := H6.grow g9
    have b4_9 := (g9 m3.length (by omega)).trans b4_7
    have b7_9 := (g9 m6.length (by omega)).trans b7_7
    have e10 : fcall X_laws_eqEventS [slO k5 l.length, slO k9 l.length] m9 = some (.bool true, m9) := f_ask (mapO2 (H5.fz (fzc_AE l)) (H9.fz (fzc_AE l))) (s_eqEventS l (by omega) hb') rfl
    obtain ⟨m11, e11, l11, g11, H5⟩ := H5.call (X := X_laws_markEventS) (rest := [.int .i64 1]) (s_markEventS l 1 (by omega) hb' (by omega) (by omega)) rfl rfl (by have := can_AE (markES 1 l) (by rw [markES_len]; omega); rwa [markES_len] at this) (by rw [memAE_len, memAE_len, markES_len])
    have H3 := H3.apart g11 (by omega)
    have H6 := H6.apart g11 (by omega)
    have b4_11 := (out_range g11 (n := m3.length) (by omega)).trans b4_9
    have b7_11 := (out_range g11 (n := m6.length) (by omega)).trans b7_9
    have e12 : fcall X_laws_eqEventsResult [erO 0 k6 o.length, erO 0 k3 o.length] m11 = some (.bool true, m11) := f_ask (mapO2 (H6.fz (fzc_erC 0 o)) (H3.fz (fzc_erE 0 o))) (s_eqEventsResult 0 o (by omega) ho) rfl
    obtain ⟨m13, e13, l13, g13, H6⟩ := H6.call (X := X_laws_markEventsResult) (rest := [.int .i64 1]) (s_markEventsResult 0 o (by omega) ho (by omega)) rfl rfl (by have := can_agg (c := 0) (can_C (markES 1 o) (by rw [markES_len]; omega)); rwa [markES_len] at this) (by rw [memC_len, memC_len, famN_marks])
    have H3 := H3.apart g13 (by omega)
    have b4_13 := (out_range g13 (n := m3.length) (by omega)).trans b4_11
    have b7_13 := (out_range g13 (n := m6.length) (by omega)).trans b7_11
    have e14 : fcall X_laws_heldEventsResult [erO 0 k6 o.length, .int .i64 1] m13 = some (.int .i64 (upES 1 o), m13) := f_ask (mapO2 (H6.fz hf) (fz_int 63 _ .i64 1)) (s_heldEventsResult 0 o (by omega) ho (by omega)) rfl
    obtain ⟨k15, m15, q15, e15, l15, g15, H15⟩ := n_toEventS l (by omega) hb' m13
    have H3 := H3.grow g15
    have H6 := H6.grow g15
    have b4_15 := (g15 m3.length (by omega)).trans b4_13
    have b7_15 := (g15 m6.length (by omega)).trans b7_13
    obtain ⟨k16, m16, q16, e16, l16, g16, H16⟩ := Has.new (X := X_impl_EventsFor) (F := fun k => erO 0 k o.length) (m := m15) (mapO2 (H15.fz (fzc_AE l)) (fz_int 63 _ .i64 who)) I (can_agg (can_C o (by omega))) (hd_C o) (fun N => rnh_er 0 N _ _ (by simp))
    have H3 := H3.grow g16
    have H6 := H6.grow g16
    have b4_16 := (g16 m3.length (by omega)).trans b4_15
    have b7_16 := (g16 m6.length (by omega)).trans b7_15
    obtain ⟨m17, hm17⟩ : ∃ M, m16 ++ [blk [.int .i64 0, slO k16 o.length]] = M := ⟨_, rfl⟩
    have l17 := box_len hm17
    have g17 := box_grow hm17
    have H3 := H3.grow g17
    have H6 := H6.grow g17
    have H16 := H16.grow g17
    have b4_17 := (g17 m3.length (by omega)).trans b4_16
    have b7_17 := (g17 m6.length (by omega)).trans b7_16
    have b17_17 := box_get hm17
    have e18 : fcall X_laws_eqEventsResult [erO 0 k16 o.length, erO 0 k3 o.length] m17 = some (.bool true, m17) := f_ask (mapO2 (H16.fz (fzc_erC 0 o)) (H3.fz (fzc_erE 0 o))) (s_eqEventsResult 0 o (by omega) ho) rfl
    have e19 : fcall X_laws_heldEventsResult [erO 0 k6 o.length, .int .i64 1] m17 = some (.int .i64 (upES 1 o), m17) := f_ask (mapO2 (H6.fz hf) (fz_int 63 _ .i64 1)) (s_heldEventsResult 0 o (by omega) ho (by omega)) rfl
    have u1 : ¬ upES 1 l < 0 := by omega
    have u2 : ¬ upES 1 o < 0 := by omega
    simp (maxSteps := 2000000) -implicitDefEqProofs [-fcall_eq, -rcall_eq, X_laws_FnExactEventsFor, retK_eq, e1, e2, e3, hm4, e5, e6, hm7, b7_7, b4_7, e8, e9, e10, e11, b7_11, b4_11, e12, e13, b7_13, e14, e15, e16, hm17, b17_17, b4_17, e18, b7_17, e19, h0, u1, u2]
theorem law_bad (l : List EvT) (who : Int) (S0 : X_laws_szEventS [frS eEv l, .int .i64 1048576] [] = some (.int .i64 (szES l 1048576), [])) (h0 : ¬ szES l 1048576 < 0) (hn : l.length ≤ 1048576) (hb' : ∀ x ∈ l, x.d.length < 1000000000) (hup : 1 ≤ upES 1 l) (hu : upES 1 l ≤ 100000000) (S : X_spec_EventsFor [frS eEv l, .int .i64 who] [] = some (.agg #[.int .i64 2, nilW], [])) (I : X_impl_EventsFor [frS eEv l, .int .i64 who] [] = some (.agg #[.int .i64 2, nilW], [])) : X_laws_FnExactEventsFor [frS eEv l, .int .i64 who] [] = some (.bool true, []) := by
    have e1 : fcall X_laws_szEventS [frS eEv l, .int .i64 1048576] [] = some (.int .i64 (szES l 1048576), []) := f_ask (mapO2 (fz_frS eEv 63 _ l) (fz_int 63 _ .i64 1048576)) S0 rfl
    obtain ⟨k2, m2, q2, e2, l2, g2, H2⟩ := n_toEventS l (by omega) hb' []
    obtain ⟨k3, m3, q3, e3, l3, g3, H3⟩ := Has.new (X := X_spec_EventsFor) (F := fun k => .agg #[.int .i64 2, nilW]) (m := m2) (mapO2 (H2.fz (fzc_AE l)) (fz_int 63 _ .i64 who)) S (can_er0 2) hd_nil (fun N => rnh_er0 2 N)
    obtain ⟨m4, hm4⟩ : ∃ M, m3 ++ [blk [.int .i64 2, nilW]] = M := ⟨_, rfl⟩
    have l4 := box_len hm4
    have g4 := box_grow hm4
    have H3 := H3.grow g4
    have b4_4 := box_get hm4
    obtain ⟨k5, m5, q5, e5, l5, g5, H5⟩ := n_toEventS l (by omega) hb' m4
    have H3 := H3.grow g5
    have b4_5 := (g5 m3.length (by omega)).trans b4_4
    obtain ⟨k6, m6, q6, e6, l6, g6, H6⟩ := Has.new (X := X_impl_EventsFor) (F := fun k => .agg #[.int .i64 2, nilW]) (m := m5) (mapO2 (H5.fz (fzc_AE l)) (fz_int 63 _ .i64 who)) I (can_er0 2) hd_nil (fun N => rnh_er0 2 N)
    have H3 := H3.grow g6
    have H5 := H5.grow g6
    have b4_6 := (g6 m3.length (by omega)).trans b4_5
    obtain ⟨m7, hm7⟩ : ∃ M, m6 ++ [blk [.int .i64 2, nilW]] = M := ⟨_, rfl⟩
    have l7 := box_len hm7
    have g7 := box_grow hm7
    have H3 := H3.grow g7
    have H5 := H5.grow g7
    have H6 := H6.grow g7
    have b4_7 := (g7 m3.length (by omega)).trans b4_6
    have b7_7 := box_get hm7
    have e8 : fcall X_laws_eqEventsResult [.agg #[.int .i64 2, nilW], .agg #[.int .i64 2, nilW]] m7 = some (.bool true, m7) := f_ask (mapO2 (H6.fz (fzc_er0 2)) (H3.fz (fzc_er0 2))) (s_eqEventsResult 2 [] (by simp) (by simp)) rfl
    obtain ⟨k9, m9, q9, e9, l9, g9, H9⟩ := n_toEventS l (by omega) hb' m7
    have H3 := H3.grow g9
    have H5 := H5.grow g9
    have H6 := H6.grow g9
    have b4_9 := (g9 m3.length (by omega)).trans b4_7
    have b7_9 := (g9 m6.length (by omega)).trans b7_7
    have e10 : fcall X_laws_eqEventS [slO k5 l.length, slO k9 l.length] m9 = some (.bool true, m9) := f_ask (mapO2 (H5.fz (fzc_AE l)) (H9.fz (fzc_AE l))) (s_eqEventS l (by omega) hb') rfl
    obtain ⟨m11, e11, l11, g11, H5⟩ := H5.call (X := X_laws_markEventS) (rest := [.int .i64 1]) (s_markEventS l 1 (by omega) hb' (by omega) (by omega)) rfl rfl (by have := can_AE (markES 1 l) (by rw [markES_len]; omega); rwa [markES_len] at this) (by rw [memAE_len, memAE_len, markES_len])
    have H3 := H3.apart g11 (by omega)
    have H6 := H6.apart g11 (by omega)
    have b4_11 := (out_range g11 (n := m3.length) (by omega)).trans b4_9
    have b7_11 := (out_range g11 (n := m6.length) (by omega)).trans b7_9
    have e12 : fcall X_laws_eqEventsResult [.agg #[.int .i64 2, nilW], .agg #[.int .i64 2, nilW]] m11 = some (.bool true, m11) := f_ask (mapO2 (H6.fz (fzc_er0 2)) (H3.fz (fzc_er0 2))) (s_eqEventsResult 2 [] (by simp) (by simp)) rfl
    obtain ⟨m13, e13, l13, g13, H6⟩ := H6.call (X := X_laws_markEventsResult) (rest := [.int .i64 1]) (s_markEventsResult0 2) rfl rfl (can_er0 2) rfl
    have H3 := H3.apart g13 (by omega)
    have b4_13 := (out_range g13 (n := m3.length) (by omega)).trans b4_11
    have b7_13 := (out_range g13 (n := m6.length) (by omega)).trans b7_11
    have e14 : fcall X_laws_heldEventsResult [.agg #[.int .i64 2, nilW], .int .i64 1] m13 = some (.int .i64 1, m13) := f_ask (mapO2 (H6.fz (fzc_er0 2)) (fz_int 63 _ .i64 1)) (s_heldEventsResult 2 [] (by simp) (by simp) (by simp [upES])) rfl
    obtain ⟨k15, m15, q15, e15, l15, g15, H15⟩ := n_toEventS l (by omega) hb' m13
    have H3 := H3.grow g15
    have H6 := H6.grow g15
    have b4_15 := (g15 m3.length (by omega)).trans b4_13
    have b7_15 := (g15 m6.length (by omega)).trans b7_13
    obtain ⟨k16, m16, q16, e16, l16, g16, H16⟩ := Has.new (X := X_impl_EventsFor) (F := fun k => .agg #[.int .i64 2, nilW]) (m := m15) (mapO2 (H15.fz (fzc_AE l)) (fz_int 63 _ .i64 who)) I (can_er0 2) hd_nil (fun N => rnh_er0 2 N)
    have H3 := H3.grow g16
    have H6 := H6.grow g16
    have b4_16 := (g16 m3.length (by omega)).trans b4_15
    have b7_16 := (g16 m6.length (by omega)).trans b7_15
    obtain ⟨m17, hm17⟩ : ∃ M, m16 ++ [blk [.int .i64 2, nilW]] = M := ⟨_, rfl⟩
    have l17 := box_len hm17
    have g17 := box_grow hm17
    have H3 := H3.grow g17
    have H6 := H6.grow g17
    have H16 := H16.grow g17
    have b4_17 := (g17 m3.length (by omega)).trans b4_16
    have b7_17 := (g17 m6.length (by omega)).trans b7_16
    have b17_17 := box_get hm17
    have e18 : fcall X_laws_eqEventsResult [.agg #[.int .i64 2, nilW], .agg #[.int .i64 2, nilW]] m17 = some (.bool true, m17) := f_ask (mapO2 (H16.fz (fzc_er0 2)) (H3.fz (fzc_er0 2))) (s_eqEventsResult 2 [] (by simp) (by simp)) rfl
    have e19 : fcall X_laws_heldEventsResult [.agg #[.int .i64 2, nilW], .int .i64 1] m17 = some (.int .i64 1, m17) := f_ask (mapO2 (H6.fz (fzc_er0 2)) (fz_int 63 _ .i64 1)) (s_heldEventsResult 2 [] (by simp) (by simp) (by simp [upES])) rfl
    have u1 : ¬ upES 1 l < 0 := by omega
    simp (maxSteps := 2000000) -implicitDefEqProofs [-fcall_eq, -rcall_eq, X_laws_FnExactEventsFor, retK_eq, e1, e2, e3, hm4, e5, e6, hm7, b7_7, b4_7, e8, e9, e10, e11, b7_11, b4_11, e12, e13, b7_13, e14, e15, e16, hm17, b17_17, b4_17, e18, b7_17, e19, h0, u1]
end Go.Ab
