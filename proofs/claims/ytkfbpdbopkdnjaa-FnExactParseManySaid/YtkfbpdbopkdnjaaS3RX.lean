/- What the functions of the program answer, for all arguments that the theorems name as conditions. -/
import Derived.Test.YtkfbpdbopkdnjaaS3RW
namespace Go.Ab
set_option linter.unusedSimpArgs false
set_option linter.unusedVariables false
set_option maxHeartbeats 40000000
abbrev rs6 (c a b : Int) (d : Bool) (w v : Value) : Value := .agg #[.int .i64 c, w, .int .i64 a, .int .i64 b, .bool d, v]
theorem fzO_own6 (l : List Int) : fz 64 [ownB eI6 l] (slO 0 l.length) = some (frS eI6 l) := by simp
theorem law_core (p : ParT) (l : List Int) (hl : l.length < 1000000000) (hl2 : ¬ (1048576 : Int) < l.length) (hp : p.ns.length < 1000000000) (S0 : X_laws_szParser [parV p, .int .i64 1048576] [] = some (.int .i64 (szP p 1048576), [])) (h0 : ¬ szP p 1048576 < 0) (c a b : Int) (d : Bool) (w0S v0S w0I v0I W W' : Value) (wS vS wI vI : Nat → Value) (MS MI MK : Mem) (qq : Int) (hq : 0 ≤ qq)
    (fwS : ∀ k, flat (wS k) = true) (fvS : ∀ k, flat (vS k) = true) (fwI : ∀ k, flat (wI k) = true) (fvI : ∀ k, flat (vI k) = true)
    (S : X_spec_ParseMany [parV p, frS eI6 l] [] = some (rs6 c a b d w0S v0S, MS)) (canS : Can (rs6 c a b d w0S v0S) MS) (hdS : HdM MS) (rnS : ∀ N, rnV 8 hard (sft N MS.length) (rs6 c a b d w0S v0S) = some (rs6 c a b d (wS N) (vS N))) (fzS : fz 64 MS (rs6 c a b d w0S v0S) = some W)
    (I : X_impl_ParseMany [parV p, frS eI6 l] [] = some (rs6 c a b d w0I v0I, MI)) (canI : Can (rs6 c a b d w0I v0I) MI) (hdI : HdM MI) (rnI : ∀ N, rnV 8 hard (sft N MI.length) (rs6 c a b d w0I v0I) = some (rs6 c a b d (wI N) (vI N))) (fzI : fz 64 MI (rs6 c a b d w0I v0I) = some W)
    (E : X_laws_eqActionsResult [W, W] [] = some (.bool true, []))
    (K : X_laws_markActionsResult [rs6 c a b d w0I v0I, .int .i64 1] MI = some (.int .i64 qq, MK)) (canK : Can (rs6 c a b d w0I v0I) MK) (lenK : MK.length = MI.length) (fzK : fz 64 MK (rs6 c a b d w0I v0I) = some W') (HH : X_laws_heldActionsResult [W', .int .i64 1] [] = some (.int .i64 qq, [])) : X_laws_FnExactParseMany [parV p, frS eI6 l] [] = some (.bool true, []) := by
    obtain ⟨m1, hm1⟩ : ∃ M, ([blk [.int .i64 p.k, .int .i64 p.s, .bool p.lead, frS eI6 p.ns]] : Mem) = M := ⟨_, rfl⟩
    have l1 : m1.length = 1 := by rw [← hm1]; rfl
    have b1_1 : m1[0]? = some (blk [.int .i64 p.k, .int .i64 p.s, .bool p.lead, frS eI6 p.ns]) := by rw [← hm1]; rfl
    have e2 : fcall X_laws_szParser [parV p, .int .i64 1048576] m1 = some (.int .i64 (szP p 1048576), m1) := f_ask (mapO2 (fz_par p _) (fz_int 63 _ .i64 1048576)) S0 rfl
    obtain ⟨k3, m3, q3, e3, l3, g3, H3⟩ := n_toParser p hp m1
    have b1_3 := (g3 0 (by omega)).trans b1_1
    obtain ⟨k4, m4, q4, e4, l4, g4, H4⟩ := n_toInt64S l hl m3
    have H3 := H3.grow g4
    have b1_4 := (g4 0 (by omega)).trans b1_3
    obtain ⟨k5, m5, q5, e5, l5, g5, H5⟩ := Has.new (X := X_spec_ParseMany) (F := fun k => rs6 c a b d (wS k) (vS k)) (m := m4) (mapO2 (H3.fz (fzc_par p)) (H4.fz (fzO_own6 l))) S canS hdS rnS
    have b1_5 := (g5 0 (by omega)).trans b1_4
    obtain ⟨m6, hm6⟩ : ∃ M, m5 ++ [blk [.int .i64 c, wS k5, .int .i64 a, .int .i64 b, .bool d, vS k5]] = M := ⟨_, rfl⟩
    have l6 := box_len hm6
    have g6 := box_grow hm6
    have H5 := H5.grow g6
    have b1_6 := (g6 0 (by omega)).trans b1_5
    have b6_6 := box_get hm6
    obtain ⟨k7, m7, q7, e7, l7, g7, H7⟩ := n_toParser p hp m6
    have H5 := H5.grow g7
    have b1_7 := (g7 0 (by omega)).trans b1_6
    have b6_7 := (g7 m5.length (by omega)).trans b6_6
    obtain ⟨m8, hm8⟩ : ∃ M, m7 ++ [blk [.int .i64 p.k, .int .i64 p.s, .bool p.lead, slO k7 p.ns.length]] = M := ⟨_, rfl⟩
    have l8 := box_len hm8
    have g8 := box_grow hm8
    have H5 := H5.grow g8
    have H7 := H7.grow g8
    have b1_8 := (g8 0 (by omega)).trans b1_7
    have b6_8 := (g8 m5.length (by omega)).trans b6_7
    have b8_8 := box_get hm8
    obtain ⟨k9, m9, q9, e9, l9, g9, H9⟩ := n_toInt64S l hl m8
    have H5 := H5.grow g9
    have H7 := H7.grow g9
    have b1_9 := (g9 0 (by omega)).trans b1_8
    have b6_9 := (g9 m5.length (by omega)).trans b6_8
    have b8_9 := (g9 m7.length (by omega)).trans b8_8
    obtain ⟨k10, m10, q10, e10, l10, g10, H10⟩ := Has.new (X := X_impl_ParseMany) (F := fun k => rs6 c a b d (wI k) (vI k)) (m := m9) (mapO2 (H7.fz (fzc_par p)) (H9.fz (fzO_own6 l))) I canI hdI rnI
    have H5 := H5.grow g10
    have H7 := H7.grow g10
    have H9 := H9.grow g10
    have b1_10 := (g10 0 (by omega)).trans b1_9
    have b6_10 := (g10 m5.length (by omega)).trans b6_9
    have b8_10 := (g10 m7.length (by omega)).trans b8_9
    obtain ⟨m11, hm11⟩ : ∃ M, m10 ++ [blk [.int .i64 c, wI k10, .int .i64 a, .int .i64 b, .bool d, vI k10]] = M := ⟨_, rfl⟩
    have l11 := box_len hm11
    have g11 := box_grow hm11
    have H5 := H5.grow g11
    have H7 := H7.grow g11
    have H9 := H9.grow g11
    have H10 := H10.grow g11
    have b1_11 := (g11 0 (by omega)).trans b1_10
    have b6_11 := (g11 m5.length (by omega)).trans b6_10
    have b8_11 := (g11 m7.length (by omega)).trans b8_10
    have b11_11 := box_get hm11
    have e12 : fcall X_laws_eqActionsResult [rs6 c a b d (wI k10) (vI k10), rs6 c a b d (wS k5) (vS k5)] m11 = some (.bool true, m11) := f_ask (mapO2 (H10.fz fzI) (H5.fz fzS)) E rfl
    obtain ⟨k13, m13, q13, e13, l13, g13, H13⟩ := n_toParser p hp m11
    have H5 := H5.grow g13
    have H7 := H7.grow g13
    have H9 := H9.grow g13
    have H10 := H10.grow g13
    have b1_13 := (g13 0 (by omega)).trans b1_11
    have b6_13 := (g13 m5.length (by omega)).trans b6_11
    have b8_13 := (g13 m7.length (by omega)).trans b8_11
    have b11_13 := (g13 m10.length (by omega)).trans b11_11
    have e14 : fcall X_laws_eqParser [parO p k7, parO p k13] m13 = some (.bool true, m13) := f_ask (mapO2 (H7.fz (fzc_par p)) (H13.fz (fzc_par p))) (s_eqParser p hp) rfl
    obtain ⟨k15, m15, q15, e15, l15, g15, H15⟩ := n_toInt64S l hl m13
    have H5 := H5.grow g15
    have H7 := H7.grow g15
    have H9 := H9.grow g15
    have H10 := H10.grow g15
    have b1_15 := (g15 0 (by omega)).trans b1_13
    have b6_15 := (g15 m5.length (by omega)).trans b6_13
    have b8_15 := (g15 m7.length (by omega)).trans b8_13
    have b11_15 := (g15 m10.length (by omega)).trans b11_13
    have e16 : fcall X_laws_eqInt64S [slO k9 l.length, slO k15 l.length] m15 = some (.bool true, m15) := f_ask (mapO2 (H9.fz (fzO_own6 l)) (H15.fz (fzO_own6 l))) (s_eqInt64S l hl) rfl
    obtain ⟨m17, e17, l17, g17, H7⟩ := H7.call (X := X_laws_markParser) (rest := [.int .i64 1]) (s_markParserO p hp) rfl rfl (by have := can_par ⟨p.k, p.s, p.lead, markI 1 p.ns.length⟩; simp only [parO, markI_len] at this; exact this) rfl
    have H5 := H5.apart g17 (by omega)
    have H9 := H9.apart g17 (by omega)
    have H10 := H10.apart g17 (by omega)
    have b1_17 := (out_range g17 (n := 0) (by omega)).trans b1_15
    have b6_17 := (out_range g17 (n := m5.length) (by omega)).trans b6_15
    have b11_17 := (out_range g17 (n := m10.length) (by omega)).trans b11_15
    obtain ⟨m18, e18, l18, g18, H9⟩ := H9.call (X := X_laws_markInt64S) (rest := [.int .i64 (1 + p.ns.length)]) (s_markInt64S l (1 + p.ns.length) hl (by omega) (by omega)) rfl rfl (by have := can_own (n := l.length) (c := l.length) (o := 0) eI6 (markI (1 + p.ns.length) l.length); exact this) rfl
    have H5 := H5.apart g18 (by omega)
    have H10 := H10.apart g18 (by omega)
    have b1_18 := (out_range g18 (n := 0) (by omega)).trans b1_17
    have b6_18 := (out_range g18 (n := m5.length) (by omega)).trans b6_17
    have b11_18 := (out_range g18 (n := m10.length) (by omega)).trans b11_17
    have e19 : fcall X_laws_eqActionsResult [rs6 c a b d (wI k10) (vI k10), rs6 c a b d (wS k5) (vS k5)] m18 = some (.bool true, m18) := f_ask (mapO2 (H10.fz fzI) (H5.fz fzS)) E rfl
    obtain ⟨m20, e20, l20, g20, H10⟩ := H10.call (X := X_laws_markActionsResult) (rest := [.int .i64 1]) K rfl rfl canK lenK
    have H5 := H5.apart g20 (by omega)
    have b1_20 := (out_range g20 (n := 0) (by omega)).trans b1_18
    have b6_20 := (out_range g20 (n := m5.length) (by omega)).trans b6_18
    have b11_20 := (out_range g20 (n := m10.length) (by omega)).trans b11_18
    have e21 : fcall X_laws_heldActionsResult [rs6 c a b d (wI k10) (vI k10), .int .i64 1] m20 = some (.int .i64 qq, m20) := f_ask (mapO2 (H10.fz fzK) (fz_int 63 _ .i64 1)) HH rfl
    obtain ⟨k22, m22, q22, e22, l22, g22, H22⟩ := n_toParser p hp m20
    have H5 := H5.grow g22
    have H10 := H10.grow g22
    have b6_22 := (g22 m5.length (by omega)).trans b6_20
    have b11_22 := (g22 m10.length (by omega)).trans b11_20
    obtain ⟨k23, m23, q23, e23, l23, g23, H23⟩ := n_toInt64S l hl m22
    have H5 := H5.grow g23
    have H10 := H10.grow g23
    have H22 := H22.grow g23
    have b6_23 := (g23 m5.length (by omega)).trans b6_22
    have b11_23 := (g23 m10.length (by omega)).trans b11_22
    obtain ⟨k24, m24, q24, e24, l24, g24, H24⟩ := Has.new (X := X_impl_ParseMany) (F := fun k => rs6 c a b d (wI k) (vI k)) (m := m23) (mapO2 (H22.fz (fzc_par p)) (H23.fz (fzO_own6 l))) I canI hdI rnI
    have H5 := H5.grow g24
    have H10 := H10.grow g24
    have b6_24 := (g24 m5.length (by omega)).trans b6_23
    have b11_24 := (g24 m10.length (by omega)).trans b11_23
    obtain ⟨m25, hm25⟩ : ∃ M, m24 ++ [blk [.int .i64 c, wI k24, .int .i64 a, .int .i64 b, .bool d, vI k24]] = M := ⟨_, rfl⟩
    have l25 := box_len hm25
    have g25 := box_grow hm25
    have H5 := H5.grow g25
    have H10 := H10.grow g25
    have H24 := H24.grow g25
    have b6_25 := (g25 m5.length (by omega)).trans b6_24
    have b11_25 := (g25 m10.length (by omega)).trans b11_24
    have b25_25 := box_get hm25
    have e26 : fcall X_laws_eqActionsResult [rs6 c a b d (wI k24) (vI k24), rs6 c a b d (wS k5) (vS k5)] m25 = some (.bool true, m25) := f_ask (mapO2 (H24.fz fzI) (H5.fz fzS)) E rfl
    have e27 : fcall X_laws_heldActionsResult [rs6 c a b d (wI k10) (vI k10), .int .i64 1] m25 = some (.int .i64 qq, m25) := f_ask (mapO2 (H10.fz fzK) (fz_int 63 _ .i64 1)) HH rfl
    have u1 : ¬ (1 + (p.ns.length : Int) + l.length) < 0 := by omega
    have u2 : ¬ qq < 0 := by omega
    simp (maxSteps := 2000000) -implicitDefEqProofs [-fcall_eq, -rcall_eq, X_laws_FnExactParseMany, retK_eq, hm1, b1_1, e2, e3, e4, e5, hm6, b1_6, e7, hm8, e9, b8_9, e10, hm11, b11_11, b6_11, e12, b8_11, b1_11, e13, e14, b8_13, e15, e16, b8_15, e17, e18, b11_18, b6_18, e19, e20, b11_20, e21, b1_20, e22, e23, e24, hm25, b25_25, b6_25, e26, b11_25, e27, h0, hl2, u1, u2, fwS, fvS, fwI, fvI]
end Go.Ab
