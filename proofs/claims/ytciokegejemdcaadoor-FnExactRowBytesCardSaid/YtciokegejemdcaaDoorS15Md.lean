/- What the functions of the program answer, for all arguments that the theorems name as conditions. -/
import Derived.Test.YtciokegejemdcaaDoorS15Mb
import Derived.Test.YtciokegejemdcaaDoorS15Mc
import Derived.Test.YtciokegejemdcaaDoorFD
import Derived.Test.YtciokegejemdcaaDoorS15Ma
import Derived.Test.YtciokegejemdcaaDoorFC
set_option linter.unusedVariables false
set_option linter.unusedSimpArgs false
namespace Go.Ab
set_option maxHeartbeats 40000000
theorem law_ok (s : ScrT) (y : Int) (O : List Int) (hO : O.length < 1000000000) (hs : s.small) (S0 : X_laws_szScreen [scrV s, .int .i64 1048576] [] = some (.int .i64 (s.szl 1048576), [])) (h0 : ¬ s.szl 1048576 < 0) (hup : 0 ≤ upS s 1) (S : X_spec_RowBytes [scrV s, .int .i64 y] [] = some (brO 0 0 O.length, [ownB eB8 O])) (I : X_impl_RowBytes [scrV s, .int .i64 y] [] = some (brO 0 0 O.length, [ownB eB8 O])) : X_laws_FnExactRowBytes [scrV s, .int .i64 y] [] = some (.bool true, []) := by
    have hf := fzc_br 0 (markB 1 O.length)
    rw [markB_len] at hf
    obtain ⟨m1, hm1⟩ : ∃ M, ([blk (scrL s (frS eC s.g.cs) (frS eC s.g.bk) (frS eB s.tabs) (frS eI6 s.sets))] : Mem) = M := ⟨_, rfl⟩
    have l1 : m1.length = 1 := by rw [← hm1]; rfl
    have b1_1 : m1[0]? = some (blk (scrL s (frS eC s.g.cs) (frS eC s.g.bk) (frS eB s.tabs) (frS eI6 s.sets))) := by rw [← hm1]; rfl
    have e2 : fcall X_laws_szScreen [scrV s, .int .i64 1048576] m1 = some (.int .i64 (s.szl 1048576), m1) := f_ask (mapO2 (fz_scrV s _) (fz_int 63 _ .i64 1048576)) S0 rfl
    obtain ⟨k3, m3, q3, e3, l3, g3, H3⟩ := n_toScreen s hs m1
    have b1_3 := (g3 0 (by omega)).trans b1_1
    obtain ⟨k4, m4, q4, e4, l4, g4, H4⟩ := Has.new (X := X_spec_RowBytes) (F := fun k => brO 0 k O.length) (m := m3) (mapO2 (H3.fz (fz_scO s)) (fz_int 63 _ .i64 y)) S (can_br 0 O) (hd_own eB8 (eI_hard .u8) O) (fun N => rnh_br 0 N _)
    have b1_4 := (g4 0 (by omega)).trans b1_3
    obtain ⟨m5, hm5⟩ : ∃ M, m4 ++ [blk [.int .i64 0, slO k4 O.length]] = M := ⟨_, rfl⟩
    have l5 := box_len hm5
    have g5 := box_grow hm5
    have H4 := H4.grow g5
    have b1_5 := (g5 0 (by omega)).trans b1_4
    have b5_5 := box_get hm5
    obtain ⟨k6, m6, q6, e6, l6, g6, H6⟩ := n_toScreen s hs m5
    have H4 := H4.grow g6
    have b1_6 := (g6 0 (by omega)).trans b1_5
    have b5_6 := (g6 m4.length (by omega)).trans b5_5
    obtain ⟨m7, hm7⟩ : ∃ M, m6 ++ [blk (scrL s (slQ k6 0 s.g.cs.length s.g.cs.length) (slO (k6 + 1) s.g.bk.length) (slQ (k6 + 2) 0 s.tabs.length s.tabs.length) (slO (k6 + 3) s.sets.length))] = M := ⟨_, rfl⟩
    have l7 := box_len hm7
    have g7 := box_grow hm7
    have H4 := H4.grow g7
    have H6 := H6.grow g7
    have b1_7 := (g7 0 (by omega)).trans b1_6
    have b5_7 := (g7 m4.length (by omega)).trans b5_6
    have b7_7 := box_get hm7
    obtain ⟨k8, m8, q8, e8, l8, g8, H8⟩ := Has.new (X := X_impl_RowBytes) (F := fun k => brO 0 k O.length) (m := m7) (mapO2 (H6.fz (fz_scO s)) (fz_int 63 _ .i64 y)) I (can_br 0 O) (hd_own eB8 (eI_hard .u8) O) (fun N => rnh_br 0 N _)
    have H4 := H4.grow g8
    have H6 := H6.grow g8
    have b1_8 := (g8 0 (by omega)).trans b1_7
    have b5_8 := (g8 m4.length (by omega)).trans b5_7
    have b7_8 := (g8 m6.length (by omega)).trans b7_7
    obtain ⟨m9, hm9⟩ : ∃ M, m8 ++ [blk [.int .i64 0, slO k8 O.length]] = M := ⟨_, rfl⟩
    have l9 := box_len hm9
    have g9 := box_grow hm9
    have H4 := H4.grow g9
    have H6 := H6.grow g9
    have H8 := H8.grow g9
    have b1_9 := (g9 0 (by omega)).trans b1_8
    have b5_9 := (g9 m4.length (by omega)).trans b5_8
    have b7_9 := (g9 m6.length (by omega)).trans b7_8
    have b9_9 := box_get hm9
    have e10 : fcall X_laws_eqBytesResult [brO 0 k8 O.length, brO 0 k4 O.length] m9 = some (.bool true, m9) := f_ask (mapO2 (H8.fz (fzc_br 0 O)) (H4.fz (fzc_br 0 O))) (s_eqBytesResult 0 O hO) rfl
    obtain ⟨k11, m11, q11, e11, l11, g11, H11⟩ := n_toScreen s hs m9
    have H4 := H4.grow g11
    have H6 := H6.grow g11
    have H8 := H8.grow g11
    have b1_11 := (g11 0 (by omega)).trans b1_9
    have b5_11 := (g11 m4.length (by omega)).trans b5_9
    have b7_11 := (g11 m6.length (by omega)).trans b7_9
    have b9_11 := (g11 m8.length (by omega)).trans b9_9
    have e12 : fcall X_laws_eqScreen [scW s k6 s.g.cs.length s.g.cs.length s.g.bk.length s.tabs.length s.tabs.length s.sets.length, scW s k11 s.g.cs.length s.g.cs.length s.g.bk.length s.tabs.length s.tabs.length s.sets.length] m11 = some (.bool true, m11) := f_ask (mapO2 (H6.fz (fz_scO s)) (H11.fz (fz_scO s))) (s_eqScreen s hs) rfl
    obtain ⟨m13, e13, l13, g13, H6⟩ := H6.call (X := X_laws_markScreen) (rest := [.int .i64 1]) (s_markScreenO s hs) rfl rfl (can_mS s) rfl
    have H4 := H4.apart g13 (by omega)
    have H8 := H8.apart g13 (by omega)
    have b1_13 := (out_range g13 (n := 0) (by omega)).trans b1_11
    have b5_13 := (out_range g13 (n := m4.length) (by omega)).trans b5_11
    have b9_13 := (out_range g13 (n := m8.length) (by omega)).trans b9_11
    have e14 : fcall X_laws_eqBytesResult [brO 0 k8 O.length, brO 0 k4 O.length] m13 = some (.bool true, m13) := f_ask (mapO2 (H8.fz (fzc_br 0 O)) (H4.fz (fzc_br 0 O))) (s_eqBytesResult 0 O hO) rfl
    obtain ⟨m15, e15, l15, g15, H8⟩ := H8.call (X := X_laws_markBytesResult) (rest := [.int .i64 1]) (s_markBytesResult 0 O hO) rfl rfl (by have := can_br 0 (markB 1 O.length); rwa [markB_len] at this) rfl
    have H4 := H4.apart g15 (by omega)
    have b1_15 := (out_range g15 (n := 0) (by omega)).trans b1_13
    have b5_15 := (out_range g15 (n := m4.length) (by omega)).trans b5_13
    have b9_15 := (out_range g15 (n := m8.length) (by omega)).trans b9_13
    have e16 : fcall X_laws_heldBytesResult [brO 0 k8 O.length, .int .i64 1] m15 = some (.int .i64 (1 + O.length), m15) := f_ask (mapO2 (H8.fz hf) (fz_int 63 _ .i64 1)) (s_heldBytesResult 0 O.length hO) rfl
    obtain ⟨k17, m17, q17, e17, l17, g17, H17⟩ := n_toScreen s hs m15
    have H4 := H4.grow g17
    have H8 := H8.grow g17
    have b5_17 := (g17 m4.length (by omega)).trans b5_15
    have b9_17 := (g17 m8.length (by omega)).trans b9_15
    obtain ⟨k18, m18, q18, e18, l18, g18, H18⟩ := Has.new (X := X_impl_RowBytes) (F := fun k => brO 0 k O.length) (m := m17) (mapO2 (H17.fz (fz_scO s)) (fz_int 63 _ .i64 y)) I (can_br 0 O) (hd_own eB8 (eI_hard .u8) O) (fun N => rnh_br 0 N _)
    have H4 := H4.grow g18
    have H8 := H8.grow g18
    have b5_18 := (g18 m4.length (by omega)).trans b5_17
    have b9_18 := (g18 m8.length (by omega)).trans b9_17
    obtain ⟨m19, hm19⟩ : ∃ M, m18 ++ [blk [.int .i64 0, slO k18 O.length]] = M := ⟨_, rfl⟩
    have l19 := box_len hm19
    have g19 := box_grow hm19
    have H4 := H4.grow g19
    have H8 := H8.grow g19
    have H18 := H18.grow g19
    have b5_19 := (g19 m4.length (by omega)).trans b5_18
    have b9_19 := (g19 m8.length (by omega)).trans b9_18
    have b19_19 := box_get hm19
    have e20 : fcall X_laws_eqBytesResult [brO 0 k18 O.length, brO 0 k4 O.length] m19 = some (.bool true, m19) := f_ask (mapO2 (H18.fz (fzc_br 0 O)) (H4.fz (fzc_br 0 O))) (s_eqBytesResult 0 O hO) rfl
    have e21 : fcall X_laws_heldBytesResult [brO 0 k8 O.length, .int .i64 1] m19 = some (.int .i64 (1 + O.length), m19) := f_ask (mapO2 (H8.fz hf) (fz_int 63 _ .i64 1)) (s_heldBytesResult 0 O.length hO) rfl
    have u1 : ¬ upS s 1 < 0 := by omega
    have u2 : ¬ (1 + (O.length : Int)) < 0 := by omega
    simp (maxSteps := 2000000) -implicitDefEqProofs [-fcall_eq, -rcall_eq, X_laws_FnExactRowBytes, retK_eq, hm1, b1_1, e2, e3, e4, hm5, b1_5, e6, hm7, b7_7, e8, hm9, b9_9, b5_9, e10, b7_9, b1_9, e11, e12, b7_11, e13, b9_13, b5_13, e14, e15, b9_15, e16, b1_15, e17, e18, hm19, b19_19, b5_19, e20, b9_19, e21, h0, u1, u2]
theorem law_bad (s : ScrT) (y : Int) (c : Int) (hs : s.small) (S0 : X_laws_szScreen [scrV s, .int .i64 1048576] [] = some (.int .i64 (s.szl 1048576), [])) (h0 : ¬ s.szl 1048576 < 0) (hup : 0 ≤ upS s 1) (S : X_spec_RowBytes [scrV s, .int .i64 y] [] = some (.agg #[.int .i64 c, nilR], [])) (I : X_impl_RowBytes [scrV s, .int .i64 y] [] = some (.agg #[.int .i64 c, nilR], [])) : X_laws_FnExactRowBytes [scrV s, .int .i64 y] [] = some (.bool true, []) := by
    obtain ⟨m1, hm1⟩ : ∃ M, ([blk (scrL s (frS eC s.g.cs) (frS eC s.g.bk) (frS eB s.tabs) (frS eI6 s.sets))] : Mem) = M := ⟨_, rfl⟩
    have l1 : m1.length = 1 := by rw [← hm1]; rfl
    have b1_1 : m1[0]? = some (blk (scrL s (frS eC s.g.cs) (frS eC s.g.bk) (frS eB s.tabs) (frS eI6 s.sets))) := by rw [← hm1]; rfl
    have e2 : fcall X_laws_szScreen [scrV s, .int .i64 1048576] m1 = some (.int .i64 (s.szl 1048576), m1) := f_ask (mapO2 (fz_scrV s _) (fz_int 63 _ .i64 1048576)) S0 rfl
    obtain ⟨k3, m3, q3, e3, l3, g3, H3⟩ := n_toScreen s hs m1
    have b1_3 := (g3 0 (by omega)).trans b1_1
    obtain ⟨k4, m4, q4, e4, l4, g4, H4⟩ := Has.new (X := X_spec_RowBytes) (F := fun k => .agg #[.int .i64 c, nilR]) (m := m3) (mapO2 (H3.fz (fz_scO s)) (fz_int 63 _ .i64 y)) S (can_br0 c) hd_nil (fun N => rnh_br0 c N)
    have b1_4 := (g4 0 (by omega)).trans b1_3
    obtain ⟨m5, hm5⟩ : ∃ M, m4 ++ [blk [.int .i64 c, nilR]] = M := ⟨_, rfl⟩
    have l5 := box_len hm5
    have g5 := box_grow hm5
    have H4 := H4.grow g5
    have b1_5 := (g5 0 (by omega)).trans b1_4
    have b5_5 := box_get hm5
    obtain ⟨k6, m6, q6, e6, l6, g6, H6⟩ := n_toScreen s hs m5
    have H4 := H4.grow g6
    have b1_6 := (g6 0 (by omega)).trans b1_5
    have b5_6 := (g6 m4.length (by omega)).trans b5_5
    obtain ⟨m7, hm7⟩ : ∃ M, m6 ++ [blk (scrL s (slQ k6 0 s.g.cs.length s.g.cs.length) (slO (k6 + 1) s.g.bk.length) (slQ (k6 + 2) 0 s.tabs.length s.tabs.length) (slO (k6 + 3) s.sets.length))] = M := ⟨_, rfl⟩
    have l7 := box_len hm7
    have g7 := box_grow hm7
    have H4 := H4.grow g7
    have H6 := H6.grow g7
    have b1_7 := (g7 0 (by omega)).trans b1_6
    have b5_7 := (g7 m4.length (by omega)).trans b5_6
    have b7_7 := box_get hm7
    obtain ⟨k8, m8, q8, e8, l8, g8, H8⟩ := Has.new (X := X_impl_RowBytes) (F := fun k => .agg #[.int .i64 c, nilR]) (m := m7) (mapO2 (H6.fz (fz_scO s)) (fz_int 63 _ .i64 y)) I (can_br0 c) hd_nil (fun N => rnh_br0 c N)
    have H4 := H4.grow g8
    have H6 := H6.grow g8
    have b1_8 := (g8 0 (by omega)).trans b1_7
    have b5_8 := (g8 m4.length (by omega)).trans b5_7
    have b7_8 := (g8 m6.length (by omega)).trans b7_7
    obtain ⟨m9, hm9⟩ : ∃ M, m8 ++ [blk [.int .i64 c, nilR]] = M := ⟨_, rfl⟩
    have l9 := box_len hm9
    have g9 := box_grow hm9
    have H4 := H4.grow g9
    have H6 := H6.grow g9
    have H8 := H8.grow g9
    have b1_9 := (g9 0 (by omega)).trans b1_8
    have b5_9 := (g9 m4.length (by omega)).trans b5_8
    have b7_9 := (g9 m6.length (by omega)).trans b7_8
    have b9_9 := box_get hm9
    have e10 : fcall X_laws_eqBytesResult [.agg #[.int .i64 c, nilR], .agg #[.int .i64 c, nilR]] m9 = some (.bool true, m9) := f_ask (mapO2 (H8.fz (fzc_br0 c)) (H4.fz (fzc_br0 c))) (s_eqBytesResult c [] (by simp)) rfl
    obtain ⟨k11, m11, q11, e11, l11, g11, H11⟩ := n_toScreen s hs m9
    have H4 := H4.grow g11
    have H6 := H6.grow g11
    have H8 := H8.grow g11
    have b1_11 := (g11 0 (by omega)).trans b1_9
    have b5_11 := (g11 m4.length (by omega)).trans b5_9
    have b7_11 := (g11 m6.length (by omega)).trans b7_9
    have b9_11 := (g11 m8.length (by omega)).trans b9_9
    have e12 : fcall X_laws_eqScreen [scW s k6 s.g.cs.length s.g.cs.length s.g.bk.length s.tabs.length s.tabs.length s.sets.length, scW s k11 s.g.cs.length s.g.cs.length s.g.bk.length s.tabs.length s.tabs.length s.sets.length] m11 = some (.bool true, m11) := f_ask (mapO2 (H6.fz (fz_scO s)) (H11.fz (fz_scO s))) (s_eqScreen s hs) rfl
    obtain ⟨m13, e13, l13, g13, H6⟩ := H6.call (X := X_laws_markScreen) (rest := [.int .i64 1]) (s_markScreenO s hs) rfl rfl (can_mS s) rfl
    have H4 := H4.apart g13 (by omega)
    have H8 := H8.apart g13 (by omega)
    have b1_13 := (out_range g13 (n := 0) (by omega)).trans b1_11
    have b5_13 := (out_range g13 (n := m4.length) (by omega)).trans b5_11
    have b9_13 := (out_range g13 (n := m8.length) (by omega)).trans b9_11
    have e14 : fcall X_laws_eqBytesResult [.agg #[.int .i64 c, nilR], .agg #[.int .i64 c, nilR]] m13 = some (.bool true, m13) := f_ask (mapO2 (H8.fz (fzc_br0 c)) (H4.fz (fzc_br0 c))) (s_eqBytesResult c [] (by simp)) rfl
    obtain ⟨m15, e15, l15, g15, H8⟩ := H8.call (X := X_laws_markBytesResult) (rest := [.int .i64 1]) (s_markBytesResult0 c) rfl rfl (can_br0 c) rfl
    have H4 := H4.apart g15 (by omega)
    have b1_15 := (out_range g15 (n := 0) (by omega)).trans b1_13
    have b5_15 := (out_range g15 (n := m4.length) (by omega)).trans b5_13
    have b9_15 := (out_range g15 (n := m8.length) (by omega)).trans b9_13
    have e16 : fcall X_laws_heldBytesResult [.agg #[.int .i64 c, nilR], .int .i64 1] m15 = some (.int .i64 1, m15) := f_ask (mapO2 (H8.fz (fzc_br0 c)) (fz_int 63 _ .i64 1)) (s_heldBytesResult0 c) rfl
    obtain ⟨k17, m17, q17, e17, l17, g17, H17⟩ := n_toScreen s hs m15
    have H4 := H4.grow g17
    have H8 := H8.grow g17
    have b5_17 := (g17 m4.length (by omega)).trans b5_15
    have b9_17 := (g17 m8.length (by omega)).trans b9_15
    obtain ⟨k18, m18, q18, e18, l18, g18, H18⟩ := Has.new (X := X_impl_RowBytes) (F := fun k => .agg #[.int .i64 c, nilR]) (m := m17) (mapO2 (H17.fz (fz_scO s)) (fz_int 63 _ .i64 y)) I (can_br0 c) hd_nil (fun N => rnh_br0 c N)
    have H4 := H4.grow g18
    have H8 := H8.grow g18
    have b5_18 := (g18 m4.length (by omega)).trans b5_17
    have b9_18 := (g18 m8.length (by omega)).trans b9_17
    obtain ⟨m19, hm19⟩ : ∃ M, m18 ++ [blk [.int .i64 c, nilR]] = M := ⟨_, rfl⟩
    have l19 := box_len hm19
    have g19 := box_grow hm19
    have H4 := H4.grow g19
    have H8 := H8.grow g19
    have H18 := H18.grow g19
    have b5_19 := (g19 m4.length (by omega)).trans b5_18
    have b9_19 := (g19 m8.length (by omega)).trans b9_18
    have b19_19 := box_get hm19
    have e20 : fcall X_laws_eqBytesResult [.agg #[.int .i64 c, nilR], .agg #[.int .i64 c, nilR]] m19 = some (.bool true, m19) := f_ask (mapO2 (H18.fz (fzc_br0 c)) (H4.fz (fzc_br0 c))) (s_eqBytesResult c [] (by simp)) rfl
    have e21 : fcall X_laws_heldBytesResult [.agg #[.int .i64 c, nilR], .int .i64 1] m19 = some (.int .i64 1, m19) := f_ask (mapO2 (H8.fz (fzc_br0 c)) (fz_int 63 _ .i64 1)) (s_heldBytesResult0 c) rfl
    have u1 : ¬ upS s 1 < 0 := by omega
    simp (maxSteps := 2000000) -implicitDefEqProofs [-fcall_eq, -rcall_eq, X_laws_FnExactRowBytes, retK_eq, hm1, b1_1, e2, e3, e4, hm5, b1_5, e6, hm7, b7_7, e8, hm9, b9_9, b5_9, e10, b7_9, b1_9, e11, e12, b7_11, e13, b9_13, b5_13, e14, e15, b9_15, e16, b1_15, e17, e18, hm19, b19_19, b5_19, e20, b9_19, e21, h0, u1]
end Go.Ab
namespace Go.Ab
open Go.Proofs
set_option maxHeartbeats 4000000
theorem typed_i64 {i : Nat} {a : Value} (h : Typed CT i [a]) (hi : (CT.ty i).d = .int .i64) : ∃ n : Int, a = .int .i64 n ∧ wfI .i64 n := typed_int h hi
theorem typed_cell {c i : Nat} {x : List Value} (h : Typed CT c x) (hl : x.length = (CT.ty c).size) (hc : (CT.ty c).d = .struct [(0, i), (1, i)]) (hi : (CT.ty i).d = .int .i64) (hs : (CT.ty c).size = 2) (hz : (CT.ty i).size = 1) : ∃ y : CellT, x = eC.f y ∧ wfI .i64 y.c ∧ wfI .i64 y.a := by
  obtain ⟨h1, h2⟩ := typed_struct h hc
  rw [hs] at hl
  match x, hl, h2 with
  | [a, b], _, h2 =>
    have q1 := h2 (0, i) (by simp)
    have q2 := h2 (1, i) (by simp)
    rw [hz] at q1 q2
    obtain ⟨n, rfl, n1⟩ := typed_i64 q1 hi
    obtain ⟨m, rfl, m1⟩ := typed_i64 q2 hi
    exact ⟨⟨n, m⟩, rfl, n1, m1⟩
theorem typed_cells {s c i : Nat} {a : Value} (h : Typed CT s [a]) (hs : (CT.ty s).d = .slice c) (hc : (CT.ty c).d = .struct [(0, i), (1, i)]) (hi : (CT.ty i).d = .int .i64) (hz : (CT.ty c).size = 2) (hz' : (CT.ty i).size = 1) : ∃ l : List CellT, a = frS eC l ∧ l.length ≤ 9223372036854775807 ∧ ∀ y ∈ l, wfI .i64 y.c ∧ wfI .i64 y.a :=
  typed_enc eC h hs fun x h1 h2 => typed_cell h1 h2 hc hi hz hz'
def GridT.wf (g : GridT) : Prop := wfI .i64 g.r ∧ wfI .i64 g.w ∧ (∀ y ∈ g.cs, wfI .i64 y.c ∧ wfI .i64 y.a) ∧ (∀ y ∈ g.bk, wfI .i64 y.c ∧ wfI .i64 y.a)
theorem typed_gridL {a b c d : Value} (h : Typed CT 24 [a, b, c, d]) : ∃ g : GridT, a = .int .i64 g.r ∧ b = .int .i64 g.w ∧ c = frS eC g.cs ∧ d = frS eC g.bk ∧ g.fit ∧ g.wf := by
  obtain ⟨h1, h2⟩ := typed_struct h rfl
  obtain ⟨r, rfl, r1⟩ := typed_i64 (h2 (0, 2) (by simp)) rfl
  obtain ⟨w, rfl, w1⟩ := typed_i64 (h2 (1, 2) (by simp)) rfl
  obtain ⟨l, rfl, l1, l2⟩ := typed_cells (h2 (2, 22) (by simp)) rfl rfl rfl rfl rfl
  obtain ⟨k, rfl, k1, k2⟩ := typed_cells (h2 (3, 22) (by simp)) rfl rfl rfl rfl rfl
  exact ⟨⟨r, w, l, k⟩, rfl, rfl, rfl, rfl, ⟨l1, k1⟩, r1, w1, l2, k2⟩
end Go.Ab
namespace Go.Ab
open Go.Proofs
set_option maxHeartbeats 4000000
theorem typed_i64s {s i : Nat} {a : Value} (h : Typed CT s [a]) (hs : (CT.ty s).d = .slice i) (hi : (CT.ty i).d = .int .i64) (hz : (CT.ty i).size = 1) : ∃ l : List Int, a = frS eI6 l ∧ l.length ≤ 9223372036854775807 ∧ ∀ y ∈ l, wfI .i64 y :=
  typed_enc eI6 h hs fun x h1 h2 => by
    rw [hz] at h2
    match x, h2 with
    | [a], _ =>
      obtain ⟨n, rfl, hn⟩ := typed_i64 h1 hi
      exact ⟨n, rfl, hn⟩
theorem typed_bools {s i : Nat} {a : Value} (h : Typed CT s [a]) (hs : (CT.ty s).d = .slice i) (hi : (CT.ty i).d = .bool) (hz : (CT.ty i).size = 1) : ∃ l : List Bool, a = frS eB l ∧ l.length ≤ 9223372036854775807 ∧ ∀ y ∈ l, True :=
  typed_enc eB h hs fun x h1 h2 => by
    rw [hz] at h2
    match x, h2 with
    | [a], _ =>
      obtain ⟨n, rfl⟩ := typed_bool h1 hi
      exact ⟨n, rfl, trivial⟩
theorem typed_screenL {cs : List Value} (h : Typed CT 28 cs) : ∃ s : ScrT, cs = scrL s (frS eC s.g.cs) (frS eC s.g.bk) (frS eB s.tabs) (frS eI6 s.sets) ∧ s.fit ∧ s.g.wf := by
  obtain ⟨h1, h2⟩ := typed_struct h rfl
  match cs, h1, h2 with
  | [a0, a1, a2, a3, a4, a5, a6, a7, a8, a9, a10, a11, a12, a13, a14, a15, a16, a17, a18, a19], _, h2 =>
    obtain ⟨g, rfl, rfl, rfl, rfl, gf, gw⟩ := typed_gridL (h2 (0, 24) (by simp))
    obtain ⟨x4, rfl, _⟩ := typed_i64 (h2 (4, 2) (by simp)) rfl
    obtain ⟨x5, rfl, _⟩ := typed_i64 (h2 (5, 2) (by simp)) rfl
    obtain ⟨x6, rfl⟩ := typed_bool (h2 (6, 4) (by simp)) rfl
    obtain ⟨x7, rfl, _⟩ := typed_i64 (h2 (7, 2) (by simp)) rfl
    obtain ⟨x8, rfl, _⟩ := typed_i64 (h2 (8, 2) (by simp)) rfl
    obtain ⟨x9, rfl, _⟩ := typed_i64 (h2 (9, 2) (by simp)) rfl
    obtain ⟨x10, rfl⟩ := typed_bool (h2 (10, 4) (by simp)) rfl
    obtain ⟨x11, rfl⟩ := typed_bool (h2 (11, 4) (by simp)) rfl
    obtain ⟨x12, rfl⟩ := typed_bool (h2 (12, 4) (by simp)) rfl
    obtain ⟨x13, rfl, f13, _⟩ := typed_bools (h2 (13, 25) (by simp)) rfl rfl rfl
    obtain ⟨x14, rfl, _⟩ := typed_i64 (h2 (14, 2) (by simp)) rfl
    obtain ⟨x15, rfl, _⟩ := typed_i64 (h2 (15, 2) (by simp)) rfl
    obtain ⟨x16, rfl, _⟩ := typed_i64 (h2 (16, 2) (by simp)) rfl
    obtain ⟨x17, rfl, f17, _⟩ := typed_i64s (h2 (17, 26) (by simp)) rfl rfl rfl
    obtain ⟨x18, rfl, _⟩ := typed_i64 (h2 (18, 2) (by simp)) rfl
    obtain ⟨x19, rfl, _⟩ := typed_i64 (h2 (19, 2) (by simp)) rfl
    exact ⟨⟨g, x4, x5, x6, x7, x8, x9, x10, x11, x12, x13, x14, x15, x16, x17, x18, x19⟩, rfl, ⟨gf, f13, f17⟩, gw⟩
theorem typed_screen {a : Value} (h : TypedV CT 28 a) : ∃ s : ScrT, a = scrV s ∧ s.fit ∧ s.g.wf := by
  obtain ⟨cs, rfl, h⟩ : ∃ cs : Array Value, a = .agg cs ∧ Typed CT 28 cs.toList := h
  obtain ⟨s, e, h1, h2⟩ := typed_screenL h
  obtain ⟨cs⟩ := cs
  exact ⟨s, by rw [show cs = _ from e], h1, h2⟩
def good : List Nat := [2, 4, 5, 22, 24, 25, 26, 28, 30, 92]
theorem good_ok : goodB CT good = true := by kernel_rfl
end Go.Ab
namespace Go.Ab
open Go.Proofs
set_option maxHeartbeats 8000000
theorem up_pos (S : ScrT) : 0 ≤ upS S 1 := by
  have := upG_eq S.g 1
  unfold upS
  omega
theorem body_len : ∀ (l : List CellT) (p : Option Int), (bodyL p l).length ≤ 30 * l.length
  | [], _ => by simp [bodyL]
  | x :: r, p => by
    have h := body_len r (some x.a)
    have h1 := atL_len x.a
    have h2 := encB_len x.c
    rw [bodyL]
    simp only [List.length_append, List.length_cons]
    split
    · simp only [List.length_nil]; omega
    · omega
theorem s_FnExactRowBytes (s : ScrT) (y : Int) (hfit : s.fit) : X_laws_FnExactRowBytes [scrV s, .int .i64 y] [] = some (.bool true, []) := by
  have S0 := s_szScreen s 1048576 hfit (by omega) (by omega)
  by_cases h0 : s.szl 1048576 < 0
  · simp (maxSteps := 2000000) -implicitDefEqProofs [X_laws_FnExactRowBytes, retK_eq, S0, h0]
  have hs := szs_small (by omega) h0
  by_cases hf : faultS s = 0
  · cases hi : inB y 0 (s.g.r - 1)
    · exact law_bad s y 3 hs S0 h0 (up_pos s) (s_spec_RowBytes_3 s y hs hf hi) (s_impl_RowBytes_3 s y hs hf hi)
    · have hi' := inB_iff.mp hi
      have hO : (rbL s y).length < 1000000000 := by
        have h1 := plL_len y
        have h2 := body_len (rowL s.g y) none
        obtain ⟨_, _, _, _, _, _, _, f5, _⟩ := row_facts (faultG_of hf) hi'.1 hi'.2
        unfold rbL
        rw [List.length_append]
        omega
      exact law_ok s y (rbL s y) hO hs S0 h0 (up_pos s) (s_spec_RowBytes s y hs hf hi) (s_impl_RowBytes s y hs hf hi)
  · exact law_bad s y (faultS s) hs S0 h0 (up_pos s) (s_spec_RowBytes_bad s y hs hf) (s_impl_RowBytes_bad s y hs hf)
theorem all_FnExactRowBytes : ∀ xs, TypedAll CT [28, 2] xs → Fz CT 3 xs (.bool true)
  | [a, b], h => by
    obtain ⟨s, rfl, hs, _⟩ := typed_screen h.1
    obtain ⟨r, rfl, _⟩ := typed_int h.2.1 (q := .i64) rfl
    exact fz_law ok_X_laws_FnExactRowBytes (s_FnExactRowBytes s r hs) (by simp)
  | [], h => h.elim
  | [_], h => h.2.elim
  | _ :: _ :: _ :: _, h => h.2.2.elim
end Go.Ab
