/- What the functions of the program answer, for all arguments that the theorems name as conditions. -/
import Derived.Test.YtkfbpdbopkdnjaaS3RRD
namespace Go.Ab
set_option linter.unusedSimpArgs false
set_option linter.unusedVariables false
set_option maxHeartbeats 40000000
theorem law_ok (l : List EvT) (rd : List (List Int)) (who : Int) (O : List Int) (hO : O.length < 1000000000) (S0 : X_laws_szEventS [frS eEv l, .int .i64 1048576] [] = some (.int .i64 (szES l 1048576), [])) (S1 : X_laws_szByteSS [frS eBS rd, .int .i64 (szES l 1048576)] [] = some (.int .i64 (szSS rd (szES l 1048576)), [])) (h0 : ¬ szES l 1048576 < 0) (h1 : ¬ szSS rd (szES l 1048576) < 0) (hn : l.length ≤ 1048576) (hb' : ∀ x ∈ l, x.d.length < 1000000000) (hup : 1 ≤ upES 1 l) (hu : upES 1 l ≤ 100000000) (hn2 : rd.length ≤ 1048576) (hb2 : ∀ x ∈ rd, x.length < 1000000000) (hup2 : upES 1 l ≤ upSS (upES 1 l) rd) (hu2 : upSS (upES 1 l) rd ≤ 1000000000) (S : X_spec_ReadBy [frS eEv l, frS eBS rd, .int .i64 who] [] = some (brO 0 0 O.length, [ownB eU8 O])) (I : X_impl_ReadBy [frS eEv l, frS eBS rd, .int .i64 who] [] = some (brO 0 0 O.length, [ownB eU8 O])) : X_laws_FnExactReadBy [frS eEv l, frS eBS rd, .int .i64 who] [] = some (.bool true, []) := by
    have hf := fzc_br 0 (markB 1 O.length)
    rw [markB_len] at hf
    have e1 : fcall X_laws_szEventS [frS eEv l, .int .i64 1048576] [] = some (.int .i64 (szES l 1048576), []) := f_ask (mapO2 (fz_frS eEv 63 _ l) (fz_int 63 _ .i64 1048576)) S0 rfl
    have e2 : fcall X_laws_szByteSS [frS eBS rd, .int .i64 (szES l 1048576)] [] = some (.int .i64 (szSS rd (szES l 1048576)), []) := f_ask (mapO2 (fz_frS eBS 63 _ rd) (fz_int 63 _ .i64 (szES l 1048576))) S1 rfl
    obtain ⟨k3, m3, q3, e3, l3, g3, H3⟩ := n_toEventS l (by omega) hb' []
    obtain ⟨k4, m4, q4, e4, l4, g4, H4⟩ := n_toByteSS rd (by omega) hb2 m3
    have H3 := H3.grow g4
    obtain ⟨k5, m5, q5, e5, l5, g5, H5⟩ := Has.new (X := X_spec_ReadBy) (F := fun k => brO 0 k O.length) (m := m4) (mapO3 (H3.fz (fzc_AE l)) (H4.fz (fzc_A rd)) (fz_int 63 _ .i64 who)) S (can_br 0 O) (hd_own eU8 eU8_hard O) (fun N => rnh_br 0 N _)
    obtain ⟨m6, hm6⟩ : ∃ M, m5 ++ [blk [.int .i64 0, slO k5 O.length]] = M := ⟨_, rfl⟩
    have l6 := box_len hm6
    have g6 := box_grow hm6
    have H5 := H5.grow g6
    have b6_6 := box_get hm6
    obtain ⟨k7, m7, q7, e7, l7, g7, H7⟩ := n_toEventS l (by omega) hb' m6
    have H5 := H5.grow g7
    have b6_7 := (g7 m5.length (by omega)).trans b6_6
    obtain ⟨k8, m8, q8, e8, l8, g8, H8⟩ := n_toByteSS rd (by omega) hb2 m7
    have H5 := H5.grow g8
    have H7 := H7.grow g8
    have b6_8 := (g8 m5.length (by omega)).trans b6_7
    obtain ⟨k9, m9, q9, e9, l9, g9, H9⟩ := Has.new (X := X_impl_ReadBy) (F := fun k => brO 0 k O.length) (m := m8) (mapO3 (H7.fz (fzc_AE l)) (H8.fz (fzc_A rd)) (fz_int 63 _ .i64 who)) I (can_br 0 O) (hd_own eU8 eU8_hard O) (fun N => rnh_br 0 N _)
    have H5 := H5.grow g9
    have H7 := H7.grow g9
    have H8 := H8.grow g9
    have b6_9 := (g9 m5.length (by omega)).trans b6_8
    obtain ⟨m10, hm10⟩ : ∃ M, m9 ++ [blk [.int .i64 0, slO k9 O.length]] = M := ⟨_, rfl⟩
    have l10 := box_len hm10
    have g10 := box_grow hm10
    have H5 := H5.grow g10
    have H7 := H7.grow g10
    have H8 := H8.grow g10
    have H9 := H9.grow g10
    have b6_10 := (g10 m5.length (by omega)).trans b6_9
    have b10_10 := box_get hm10
    have e11 : fcall X_laws_eqBytesResult [brO 0 k9 O.length, brO 0 k5 O.length] m10 = some (.bool true, m10) := f_ask (mapO2 (H9.fz (fzc_br 0 O)) (H5.fz (fzc_br 0 O))) (s_eqBytesResult 0 O hO) rfl
    obtain ⟨k12, m12, q12, e12, l12, g12, H12⟩ := n_toEventS l (by omega) hb' m10
    have H5 := H5.grow g12
    have H7 := H7.grow g12
    have H8 := H8.grow g12
    have H9 := H9.grow g12
    have b6_12 := (g12 m5.length (by omega)).trans b6_10
    have b10_12 := (g12 m9.length (by omega)).trans b10_10
    have e13 : fcall X_laws_eqEventS [slO k7 l.length, slO k12 l.length] m12 = some (.bool true, m12) := f_ask (mapO2 (H7.fz (fzc_AE l)) (H12.fz (fzc_AE l))) (s_eqEventS l (by omega) hb') rfl
    obtain ⟨k14, m14, q14, e14, l14, g14, H14⟩ := n_toByteSS rd (by omega) hb2 m12
    have H5 := H5.grow g14
    have H7 := H7.grow g14
    have H8 := H8.grow g14
    have H9 := H9.grow g14
    have b6_14 := (g14 m5.length (by omega)).trans b6_12
    have b10_14 := (g14 m9.length (by omega)).trans b10_12
    have e15 : fcall X_laws_eqByteSS [slO k8 rd.length, slO k14 rd.length] m14 = some (.bool true, m14) := f_ask (mapO2 (H8.fz (fzc_A rd)) (H14.fz (fzc_A rd))) (s_eqByteSS rd (by omega) hb2) rfl
    obtain ⟨m16, e16, l16, g16, H7⟩ := H7.call (X := X_laws_markEventS) (rest := [.int .i64 1]) (s_markEventS l 1 (by omega) hb' (by omega) (by omega)) rfl rfl (by have := can_AE (markES 1 l) (by rw [markES_len]; omega); rwa [markES_len] at this) (by rw [memAE_len, memAE_len, markES_len])
    have H5 := H5.apart g16 (by omega)
    have H8 := H8.apart g16 (by omega)
    have H9 := H9.apart g16 (by omega)
    have b6_16 := (out_range g16 (n := m5.length) (by omega)).trans b6_14
    have b10_16 := (out_range g16 (n := m9.length) (by omega)).trans b10_14
    obtain ⟨m17, e17, l17, g17, H8⟩ := H8.call (X := X_laws_markByteSS) (rest := [.int .i64 (upES 1 l)]) (s_markByteSS rd (upES 1 l) (by omega) hb2 (by omega) (by omega)) rfl rfl (by have := can_A (markSS (upES 1 l) rd) (by rw [markSS_len]; omega); rwa [markSS_len] at this) (by rw [memA_len, memA_len, markSS_len])
    have H5 := H5.apart g17 (by omega)
    have H9 := H9.apart g17 (by omega)
    have b6_17 := (out_range g17 (n := m5.length) (by omega)).trans b6_16
    have b10_17 := (out_range g17 (n := m9.length) (by omega)).trans b10_16
    have e18 : fcall X_laws_eqBytesResult [brO 0 k9 O.length, brO 0 k5 O.length] m17 = some (.bool true, m17) := f_ask (mapO2 (H9.fz (fzc_br 0 O)) (H5.fz (fzc_br 0 O))) (s_eqBytesResult 0 O hO) rfl
    obtain ⟨m19, e19, l19, g19, H9⟩ := H9.call (X := X_laws_markBytesResult) (rest := [.int .i64 1]) (s_markBytesResult 0 O hO) rfl rfl (by have := can_br 0 (markB 1 O.length); rwa [markB_len] at this) rfl
    have H5 := H5.apart g19 (by omega)
    have b6_19 := (out_range g19 (n := m5.length) (by omega)).trans b6_17
    have b10_19 := (out_range g19 (n := m9.length) (by omega)).trans b10_17
    have e20 : fcall X_laws_heldBytesResult [brO 0 k9 O.length, .int .i64 1] m19 = some (.int .i64 (1 + O.length), m19) := f_ask (mapO2 (H9.fz hf) (fz_int 63 _ .i64 1)) (s_heldBytesResult 0 O.length hO) rfl
    obtain ⟨k21, m21, q21, e21, l21, g21, H21⟩ := n_toEventS l (by omega) hb' m19
    have H5 := H5.grow g21
    have H9 := H9.grow g21
    have b6_21 := (g21 m5.length (by omega)).trans b6_19
    have b10_21 := (g21 m9.length (by omega)).trans b10_19
    obtain ⟨k22, m22, q22, e22, l22, g22, H22⟩ := n_toByteSS rd (by omega) hb2 m21
    have H5 := H5.grow g22
    have H9 := H9.grow g22
    have H21 := H21.grow g22
    have b6_22 := (g22 m5.length (by omega)).trans b6_21
    have b10_22 := (g22 m9.length (by omega)).trans b10_21
    obtain ⟨k23, m23, q23, e23, l23, g23, H23⟩ := Has.new (X := X_impl_ReadBy) (F := fun k => brO 0 k O.length) (m := m22) (mapO3 (H21.fz (fzc_AE l)) (H22.fz (fzc_A rd)) (fz_int 63 _ .i64 who)) I (can_br 0 O) (hd_own eU8 eU8_hard O) (fun N => rnh_br 0 N _)
    have H5 := H5.grow g23
    have H9 := H9.grow g23
    have b6_23 := (g23 m5.length (by omega)).trans b6_22
    have b10_23 := (g23 m9.length (by omega)).trans b10_22
    obtain ⟨m24, hm24⟩ : ∃ M, m23 ++ [blk [.int .i64 0, slO k23 O.length]] = M := ⟨_, rfl⟩
    have l24 := box_len hm24
    have g24 := box_grow hm24
    have H5 := H5.grow g24
    have H9 := H9.grow g24
    have H23 := H23.grow g24
    have b6_24 := (g24 m5.length (by omega)).trans b6_23
    have b10_24 := (g24 m9.length (by omega)).trans b10_23
    have b24_24 := box_get hm24
    have e25 : fcall X_laws_eqBytesResult [brO 0 k23 O.length, brO 0 k5 O.length] m24 = some (.bool true, m24) := f_ask (mapO2 (H23.fz (fzc_br 0 O)) (H5.fz (fzc_br 0 O))) (s_eqBytesResult 0 O hO) rfl
    have e26 : fcall X_laws_heldBytesResult [brO 0 k9 O.length, .int .i64 1] m24 = some (.int .i64 (1 + O.length), m24) := f_ask (mapO2 (H9.fz hf) (fz_int 63 _ .i64 1)) (s_heldBytesResult 0 O.length hO) rfl
    have u1 : ¬ upSS (upES 1 l) rd < 0 := by omega
    have u2 : ¬ (1 + (O.length : Int)) < 0 := by omega
    simp (maxSteps := 2000000) -implicitDefEqProofs [-fcall_eq, -rcall_eq, X_laws_FnExactReadBy, retK_eq, e1, e2, e3, e4, e5, hm6, e7, e8, e9, hm10, b10_10, b6_10, e11, e12, e13, e14, e15, e16, e17, b10_17, b6_17, e18, e19, b10_19, e20, e21, e22, e23, hm24, b24_24, b6_24, e25, b10_24, e26, h0, h1, u1, u2]
theorem law_bad (l : List EvT) (rd : List (List Int)) (who : Int) (c : Int) (S0 : X_laws_szEventS [frS eEv l, .int .i64 1048576] [] = some (.int .i64 (szES l 1048576), [])) (S1 : X_laws_szByteSS [frS eBS rd, .int .i64 (szES l 1048576)] [] = some (.int .i64 (szSS rd (szES l 1048576)), [])) (h0 : ¬ szES l 1048576 < 0) (h1 : ¬ szSS rd (szES l 1048576) < 0) (hn : l.length ≤ 1048576) (hb' : ∀ x ∈ l, x.d.length < 1000000000) (hup : 1 ≤ upES 1 l) (hu : upES 1 l ≤ 100000000) (hn2 : rd.length ≤ 1048576) (hb2 : ∀ x ∈ rd, x.length < 1000000000) (hup2 : upES 1 l ≤ upSS (upES 1 l) rd) (hu2 : upSS (upES 1 l) rd ≤ 1000000000) (S : X_spec_ReadBy [frS eEv l, frS eBS rd, .int .i64 who] [] = some (.agg #[.int .i64 c, nilR], [])) (I : X_impl_ReadBy [frS eEv l, frS eBS rd, .int .i64 who] [] = some (.agg #[.int .i64 c, nilR], [])) : X_laws_FnExactReadBy [frS eEv l, frS eBS rd, .int .i64 who] [] = some (.bool true, []) := by
    have e1 : fcall X_laws_szEventS [frS eEv l, .int .i64 1048576] [] = some (.int .i64 (szES l 1048576), []) := f_ask (mapO2 (fz_frS eEv 63 _ l) (fz_int 63 _ .i64 1048576)) S0 rfl
    have e2 : fcall X_laws_szByteSS [frS eBS rd, .int .i64 (szES l 1048576)] [] = some (.int .i64 (szSS rd (szES l 1048576)), []) := f_ask (mapO2 (fz_frS eBS 63 _ rd) (fz_int 63 _ .i64 (szES l 1048576))) S1 rfl
    obtain ⟨k3, m3, q3, e3, l3, g3, H3⟩ := n_toEventS l (by omega) hb' []
    obtain ⟨k4, m4, q4, e4, l4, g4, H4⟩ := n_toByteSS rd (by omega) hb2 m3
    have H3 := H3.grow g4
    obtain ⟨k5, m5, q5, e5, l5, g5, H5⟩ := Has.new (X := X_spec_ReadBy) (F := fun k => .agg #[.int .i64 c, nilR]) (m := m4) (mapO3 (H3.fz (fzc_AE l)) (H4.fz (fzc_A rd)) (fz_int 63 _ .i64 who)) S (can_br0 c) hd_nil (fun N => rnh_br0 c N)
    obtain ⟨m6, hm6⟩ : ∃ M, m5 ++ [blk [.int .i64 c, nilR]] = M := ⟨_, rfl⟩
    have l6 := box_len hm6
    have g6 := box_grow hm6
    have H5 := H5.grow g6
    have b6_6 := box_get hm6
    obtain ⟨k7, m7, q7, e7, l7, g7, H7⟩ := n_toEventS l (by omega) hb' m6
    have H5 := H5.grow g7
    have b6_7 := (g7 m5.length (by omega)).trans b6_6
    obtain ⟨k8, m8, q8, e8, l8, g8, H8⟩ := n_toByteSS rd (by omega) hb2 m7
    have H5 := H5.grow g8
    have H7 := H7.grow g8
    have b6_8 := (g8 m5.length (by omega)).trans b6_7
    obtain ⟨k9, m9, q9, e9, l9, g9, H9⟩ := Has.new (X := X_impl_ReadBy) (F := fun k => .agg #[.int .i64 c, nilR]) (m := m8) (mapO3 (H7.fz (fzc_AE l)) (H8.fz (fzc_A rd)) (fz_int 63 _ .i64 who)) I (can_br0 c) hd_nil (fun N => rnh_br0 c N)
    have H5 := H5.grow g9
    have H7 := H7.grow g9
    have H8 := H8.grow g9
    have b6_9 := (g9 m5.length (by omega)).trans b6_8
    obtain ⟨m10, hm10⟩ : ∃ M, m9 ++ [blk [.int .i64 c, nilR]] = M := ⟨_, rfl⟩
    have l10 := box_len hm10
    have g10 := box_grow hm10
    have H5 := H5.grow g10
    have H7 := H7.grow g10
    have H8 := H8.grow g10
    have H9 := H9.grow g10
    have b6_10 := (g10 m5.length (by omega)).trans b6_9
    have b10_10 := box_get hm10
    have e11 : fcall X_laws_eqBytesResult [.agg #[.int .i64 c, nilR], .agg #[.int .i64 c, nilR]] m10 = some (.bool true, m10) := f_ask (mapO2 (H9.fz (fzc_br0 c)) (H5.fz (fzc_br0 c))) (s_eqBytesResult c [] (by simp)) rfl
    obtain ⟨k12, m12, q12, e12, l12, g12, H12⟩ := n_toEventS l (by omega) hb' m10
    have H5 := H5.grow g12
    have H7 := H7.grow g12
    have H8 := H8.grow g12
    have H9 := H9.grow g12
    have b6_12 := (g12 m5.length (by omega)).trans b6_10
    have b10_12 := (g12 m9.length (by omega)).trans b10_10
    have e13 : fcall X_laws_eqEventS [slO k7 l.length, slO k12 l.length] m12 = some (.bool true, m12) := f_ask (mapO2 (H7.fz (fzc_AE l)) (H12.fz (fzc_AE l))) (s_eqEventS l (by omega) hb') rfl
    obtain ⟨k14, m14, q14, e14, l14, g14, H14⟩ := n_toByteSS rd (by omega) hb2 m12
    have H5 := H5.grow g14
    have H7 := H7.grow g14
    have H8 := H8.grow g14
    have H9 := H9.grow g14
    have b6_14 := (g14 m5.length (by omega)).trans b6_12
    have b10_14 := (g14 m9.length (by omega)).trans b10_12
    have e15 : fcall X_laws_eqByteSS [slO k8 rd.length, slO k14 rd.length] m14 = some (.bool true, m14) := f_ask (mapO2 (H8.fz (fzc_A rd)) (H14.fz (fzc_A rd))) (s_eqByteSS rd (by omega) hb2) rfl
    obtain ⟨m16, e16, l16, g16, H7⟩ := H7.call (X := X_laws_markEventS) (rest := [.int .i64 1]) (s_markEventS l 1 (by omega) hb' (by omega) (by omega)) rfl rfl (by have := can_AE (markES 1 l) (by rw [markES_len]; omega); rwa [markES_len] at this) (by rw [memAE_len, memAE_len, markES_len])
    have H5 := H5.apart g16 (by omega)
    have H8 := H8.apart g16 (by omega)
    have H9 := H9.apart g16 (by omega)
    have b6_16 := (out_range g16 (n := m5.length) (by omega)).trans b6_14
    have b10_16 := (out_range g16 (n := m9.length) (by omega)).trans b10_14
    obtain ⟨m17, e17, l17, g17, H8⟩ := H8.call (X := X_laws_markByteSS) (rest := [.int .i64 (upES 1 l)]) (s_markByteSS rd (upES 1 l) (by omega) hb2 (by omega) (by omega)) rfl rfl (by have := can_A (markSS (upES 1 l) rd) (by rw [markSS_len]; omega); rwa [markSS_len] at this) (by rw [memA_len, memA_len, markSS_len])
    have H5 := H5.apart g17 (by omega)
    have H9 := H9.apart g17 (by omega)
    have b6_17 := (out_range g17 (n := m5.length) (by omega)).trans b6_16
    have b10_17 := (out_range g17 (n := m9.length) (by omega)).trans b10_16
    have e18 : fcall X_laws_eqBytesResult [.agg #[.int .i64 c, nilR], .agg #[.int .i64 c, nilR]] m17 = some (.bool true, m17) := f_ask (mapO2 (H9.fz (fzc_br0 c)) (H5.fz (fzc_br0 c))) (s_eqBytesResult c [] (by simp)) rfl
    obtain ⟨m19, e19, l19, g19, H9⟩ := H9.call (X := X_laws_markBytesResult) (rest := [.int .i64 1]) (s_markBytesResult0 c) rfl rfl (can_br0 c) rfl
    have H5 := H5.apart g19 (by omega)
    have b6_19 := (out_range g19 (n := m5.length) (by omega)).trans b6_17
    have b10_19 := (out_range g19 (n := m9.length) (by omega)).trans b10_17
    have e20 : fcall X_laws_heldBytesResult [.agg #[.int .i64 c, nilR], .int .i64 1] m19 = some (.int .i64 1, m19) := f_ask (mapO2 (H9.fz (fzc_br0 c)) (fz_int 63 _ .i64 1)) (s_heldBytesResult0 c) rfl
    obtain ⟨k21, m21, q21, e21, l21, g21, H21⟩ := n_toEventS l (by omega) hb' m19
    have H5 := H5.grow g21
    have H9 := H9.grow g21
    have b6_21 := (g21 m5.length (by omega)).trans b6_19
    have b10_21 := (g21 m9.length (by omega)).trans b10_19
    obtain ⟨k22, m22, q22, e22, l22, g22, H22⟩ := n_toByteSS rd (by omega) hb2 m21
    have H5 := H5.grow g22
    have H9 := H9.grow g22
    have H21 := H21.grow g22
    have b6_22 := (g22 m5.length (by omega)).trans b6_21
    have b10_22 := (g22 m9.length (by omega)).trans b10_21
    obtain ⟨k23, m23, q23, e23, l23, g23, H23⟩ := Has.new (X := X_impl_ReadBy) (F := fun k => .agg #[.int .i64 c, nilR]) (m := m22) (mapO3 (H21.fz (fzc_AE l)) (H22.fz (fzc_A rd)) (fz_int 63 _ .i64 who)) I (can_br0 c) hd_nil (fun N => rnh_br0 c N)
    have H5 := H5.grow g23
    have H9 := H9.grow g23
    have b6_23 := (g23 m5.length (by omega)).trans b6_22
    have b10_23 := (g23 m9.length (by omega)).trans b10_22
    obtain ⟨m24, hm24⟩ : ∃ M, m23 ++ [blk [.int .i64 c, nilR]] = M := ⟨_, rfl⟩
    have l24 := box_len hm24
    have g24 := box_grow hm24
    have H5 := H5.grow g24
    have H9 := H9.grow g24
    have H23 := H23.grow g24
    have b6_24 := (g24 m5.length (by omega)).trans b6_23
    have b10_24 := (g24 m9.length (by omega)).trans b10_23
    have b24_24 := box_get hm24
    have e25 : fcall X_laws_eqBytesResult [.agg #[.int .i64 c, nilR], .agg #[.int .i64 c, nilR]] m24 = some (.bool true, m24) := f_ask (mapO2 (H23.fz (fzc_br0 c)) (H5.fz (fzc_br0 c))) (s_eqBytesResult c [] (by simp)) rfl
    have e26 : fcall X_laws_heldBytesResult [.agg #[.int .i64 c, nilR], .int .i64 1] m24 = some (.int .i64 1, m24) := f_ask (mapO2 (H9.fz (fzc_br0 c)) (fz_int 63 _ .i64 1)) (s_heldBytesResult0 c) rfl
    have u1 : ¬ upSS (upES 1 l) rd < 0 := by omega
    simp (maxSteps := 2000000) -implicitDefEqProofs [-fcall_eq, -rcall_eq, X_laws_FnExactReadBy, retK_eq, e1, e2, e3, e4, e5, hm6, e7, e8, e9, hm10, b10_10, b6_10, e11, e12, e13, e14, e15, e16, e17, b10_17, b6_17, e18, e19, b10_19, e20, e21, e22, e23, hm24, b24_24, b6_24, e25, b10_24, e26, h0, h1, u1]
end Go.Ab
