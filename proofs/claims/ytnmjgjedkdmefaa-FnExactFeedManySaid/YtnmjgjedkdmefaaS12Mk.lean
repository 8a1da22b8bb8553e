/- What the functions of the program answer, for all arguments that the theorems name as conditions. -/
import Derived.Test.YtnmjgjedkdmefaaS12Mj
import Derived.Test.YtnmjgjedkdmefaaS12Mh
import Derived.Test.YtnmjgjedkdmefaaS12Ma
import Derived.Test.YtnmjgjedkdmefaaFC
set_option linter.unusedVariables false
set_option linter.unusedSimpArgs false
namespace Go.Ab
set_option maxHeartbeats 40000000
theorem n_toByteS (l : List Int) (hl : l.length < 1000000000) (m : Mem) : ∃ k m', k = m.length ∧ fcall X_laws_toByteS [frS eU8 l] m = some (slO k l.length, m') ∧ m'.length = m.length + [ownB eU8 l].length ∧ (∀ n, n < m.length → m'[n]? = m[n]?) ∧ Has m' (slO k l.length) (List.range' k [ownB eU8 l].length) (slO 0 l.length) [ownB eU8 l] :=
  Has.new (fr := [frS eU8 l]) (F := fun k => slO k l.length) (mapO1 (fz_frS eU8 63 m l)) (s_toByteS l hl) (can_own eU8 l) (hd_own eU8 eU8_hard _) (fun N => by simp)
theorem fz_tb (d : List Int) : fz 64 [ownB eU8 d] (slO 0 d.length) = some (frS eU8 d) := by simp
theorem can_tb (d : List Int) (t : Int) : Can (slO 0 d.length) [ownB eU8 (markB t d.length)] := can_own eU8 _
theorem law_core (w : WayT) (l : LnT) (d : List Int) (hd : d.length < 1000000000) (hd0 : ¬ (1048576 : Int) < (d.length : Int)) (hdu : upSS 1 l.rows + (l.cur.length : Int) ≤ 100000000000) (hl : l.rows.length < 1100000) (hb : ∀ x ∈ l.rows, x.length < 1000000000) (hc : l.cur.length < 1000000000) (hsm : l.small) (hup : upSS 1 l.rows ≤ 10000000000) (S0 : X_laws_szLine [lnV l, .int .i64 1048576] [] = some (.int .i64 (szLn l 1048576), [])) (h0 : ¬ szLn l 1048576 < 0) (c : Int) (b t : Bool) (n : Int) (O : List Int) (L : LnT) (v0 : Value) (z1 z2 z3 z4 W' : Value) (w1 w2 w3 w4 : Nat → Value) (MS MI MK : Mem) (qq : Int) (hq : 0 ≤ qq)
    (fI : ∀ k, flat (w1 k) = true ∧ flat (w2 k) = true ∧ flat (w3 k) = true ∧ flat (w4 k) = true)
    (S : X_spec_FeedMany (fmA w l d) [] = some (v0, MS)) (fzS : fz 64 MS v0 = some (lrF c b [] O L))
    (I : X_impl_FeedMany (fmA w l d) [] = some (lrV c b z1 z2 z3 z4 t n, MI)) (canI : Can (lrV c b z1 z2 z3 z4 t n) MI) (hdI : HdM MI) (rnI : ∀ N, rnV 8 hard (sft N MI.length) (lrV c b z1 z2 z3 z4 t n) = some (lrV c b (w1 N) (w2 N) (w3 N) (w4 N) t n)) (fzI : fz 64 MI (lrV c b z1 z2 z3 z4 t n) = some (lrF c b [] O L))
    (E : X_laws_eqLineResult [lrF c b [] O L, lrF c b [] O L] [] = some (.bool true, []))
    (K : X_laws_markLineResult [lrV c b z1 z2 z3 z4 t n, .int .i64 1] MI = some (.int .i64 qq, MK)) (canK : Can (lrV c b z1 z2 z3 z4 t n) MK) (lenK : MK.length = MI.length) (fzK : fz 64 MK (lrV c b z1 z2 z3 z4 t n) = some W') (HH : X_laws_heldLineResult [W', .int .i64 1] [] = some (.int .i64 qq, [])) : X_laws_FnExactFeedMany [wayV w, lnV l, frS eU8 d] [] = some (.bool true, []) := by
    have hup1 := upSS_le 1 l.rows
    obtain ⟨m1, hm1⟩ : ∃ M, ([blk (wayT w [])] : Mem) = M := ⟨_, rfl⟩
    have l1 : m1.length = 1 := by rw [← hm1]; rfl
    have b1_1 : m1[0]? = some (blk (wayT w [])) := by rw [← hm1]; rfl
    obtain ⟨m2, hm2⟩ : ∃ M, m1 ++ [blk [frS eBS l.rows, frS eU8 l.cur, .bool l.t, .int .i64 l.n]] = M := ⟨_, rfl⟩
    have l2 := box_len hm2
    have g2 := box_grow hm2
    have b1_2 := (g2 0 (by omega)).trans b1_1
    have b2_2 := box_get hm2
    have e3 : fcall X_laws_szLine [lnV l, .int .i64 1048576] m2 = some (.int .i64 (szLn l 1048576), m2) := f_ask (mapO2 (fz_ln l _) (fz_int 63 _ .i64 1048576)) S0 rfl
    have e4 : fcall X_laws_toWay [wayV w] m2 = some (wayV w, m2) := f_toWay w _
    obtain ⟨k5, m5, q5, e5, l5, g5, H5⟩ := n_toLine l hl hb hc m2
    have b1_5 := (g5 0 (by omega)).trans b1_2
    have b2_5 := (g5 m1.length (by omega)).trans b2_2
    obtain ⟨k6, m6, q6, e6, l6, g6, H6⟩ := n_toByteS d hd m5
    have H5 := H5.grow g6
    have b1_6 := (g6 0 (by omega)).trans b1_5
    have b2_6 := (g6 m1.length (by omega)).trans b2_5
    obtain ⟨m7, e7, l7, kp7⟩ := n_ask (X := X_spec_FeedMany) (m := m6) (mapO3 (fz_way w _) (H5.fz (fz_tl l)) (H6.fz (fz_tb d))) S fzS
    obtain ⟨ob1, b1_7⟩ := kp7 _ _ b1_6
    have b1_7 : m7[0]? = some ⟨(wayT w []), 0, ob1, true⟩ := b1_7
    obtain ⟨ob2, b2_7⟩ := kp7 _ _ b2_6
    have b2_7 : m7[m1.length]? = some ⟨[frS eBS l.rows, frS eU8 l.cur, .bool l.t, .int .i64 l.n], 0, ob2, true⟩ := b2_7
    obtain ⟨m8, hm8⟩ : ∃ M, m7 ++ [blk (lrC c b (frS eU8 []) (frS eU8 O) (frS eBS L.rows) (frS eU8 L.cur) L.t L.n)] = M := ⟨_, rfl⟩
    have l8 := box_len hm8
    have g8 := box_grow hm8
    have b1_8 := (g8 0 (by omega)).trans b1_7
    have b2_8 := (g8 m1.length (by omega)).trans b2_7
    have b8_8 := box_get hm8
    obtain ⟨k9, m9, q9, e9, l9, g9, H9⟩ := n_toLine l hl hb hc m8
    have b1_9 := (g9 0 (by omega)).trans b1_8
    have b2_9 := (g9 m1.length (by omega)).trans b2_8
    have b8_9 := (g9 m7.length (by omega)).trans b8_8
    obtain ⟨m10, hm10⟩ : ∃ M, m9 ++ [blk [slO k9 l.rows.length, slO (k9 + 1) l.cur.length, .bool l.t, .int .i64 l.n]] = M := ⟨_, rfl⟩
    have l10 := box_len hm10
    have g10 := box_grow hm10
    have H9 := H9.grow g10
    have b1_10 := (g10 0 (by omega)).trans b1_9
    have b2_10 := (g10 m1.length (by omega)).trans b2_9
    have b8_10 := (g10 m7.length (by omega)).trans b8_9
    have b10_10 := box_get hm10
    obtain ⟨k11, m11, q11, e11, l11, g11, H11⟩ := n_toByteS d hd m10
    have H9 := H9.grow g11
    have b1_11 := (g11 0 (by omega)).trans b1_10
    have b2_11 := (g11 m1.length (by omega)).trans b2_10
    have b8_11 := (g11 m7.length (by omega)).trans b8_10
    have b10_11 := (g11 m9.length (by omega)).trans b10_10
    have e12 : fcall X_laws_toWay [wayV w] m11 = some (wayV w, m11) := f_toWay w _
    obtain ⟨k13, m13, q13, e13, l13, g13, H13⟩ := Has.new (X := X_impl_FeedMany) (F := fun k => lrV c b (w1 k) (w2 k) (w3 k) (w4 k) t n) (m := m11) (mapO3 (fz_way w _) (H9.fz (fz_tl l)) (H11.fz (fz_tb d))) I canI hdI rnI
    have H9 := H9.grow g13
    have H11 := H11.grow g13
    have b1_13 := (g13 0 (by omega)).trans b1_11
    have b2_13 := (g13 m1.length (by omega)).trans b2_11
    have b8_13 := (g13 m7.length (by omega)).trans b8_11
    have b10_13 := (g13 m9.length (by omega)).trans b10_11
    obtain ⟨m14, hm14⟩ : ∃ M, m13 ++ [blk (lrC c b (w1 k13) (w2 k13) (w3 k13) (w4 k13) t n)] = M := ⟨_, rfl⟩
    have l14 := box_len hm14
    have g14 := box_grow hm14
    have H9 := H9.grow g14
    have H11 := H11.grow g14
    have H13 := H13.grow g14
    have b1_14 := (g14 0 (by omega)).trans b1_13
    have b2_14 := (g14 m1.length (by omega)).trans b2_13
    have b8_14 := (g14 m7.length (by omega)).trans b8_13
    have b10_14 := (g14 m9.length (by omega)).trans b10_13
    have b14_14 := box_get hm14
    have e15 : fcall X_laws_eqLineResult [lrV c b (w1 k13) (w2 k13) (w3 k13) (w4 k13) t n, lrF c b [] O L] m14 = some (.bool true, m14) := f_ask (mapO2 (H13.fz fzI) (fz_lrF c b O L _)) E rfl
    obtain ⟨k16, m16, q16, e16, l16, g16, H16⟩ := n_toLine l hl hb hc m14
    have H9 := H9.grow g16
    have H11 := H11.grow g16
    have H13 := H13.grow g16
    have b1_16 := (g16 0 (by omega)).trans b1_14
    have b2_16 := (g16 m1.length (by omega)).trans b2_14
    have b8_16 := (g16 m7.length (by omega)).trans b8_14
    have b10_16 := (g16 m9.length (by omega)).trans b10_14
    have b14_16 := (g16 m13.length (by omega)).trans b14_14
    have e17 : fcall X_laws_eqLine [tlW k9 l, tlW k16 l] m16 = some (.bool true, m16) := f_ask (mapO2 (H9.fz (fz_tl l)) (H16.fz (fz_tl l))) (s_eqLine l hsm) rfl
    obtain ⟨k18, m18, q18, e18, l18, g18, H18⟩ := n_toByteS d hd m16
    have H9 := H9.grow g18
    have H11 := H11.grow g18
    have H13 := H13.grow g18
    have b1_18 := (g18 0 (by omega)).trans b1_16
    have b2_18 := (g18 m1.length (by omega)).trans b2_16
    have b8_18 := (g18 m7.length (by omega)).trans b8_16
    have b10_18 := (g18 m9.length (by omega)).trans b10_16
    have b14_18 := (g18 m13.length (by omega)).trans b14_16
    have e19 : fcall X_laws_eqByteS [slO k11 d.length, slO k18 d.length] m18 = some (.bool true, m18) := f_ask (mapO2 (H11.fz (fz_tb d)) (H18.fz (fz_tb d))) (s_eqByteS d hd) rfl
    obtain ⟨m20, e20, l20, g20, H9⟩ := H9.call (X := X_laws_markLine) (rest := [.int .i64 1]) (s_markLineS l hl hb hc hup) rfl rfl (can_mL l hl) (len_mL l)
    have H11 := H11.apart g20 (by omega)
    have H13 := H13.apart g20 (by omega)
    have b1_20 := (out_range g20 (n := 0) (by omega)).trans b1_18
    have b2_20 := (out_range g20 (n := m1.length) (by omega)).trans b2_18
    have b8_20 := (out_range g20 (n := m7.length) (by omega)).trans b8_18
    have b14_20 := (out_range g20 (n := m13.length) (by omega)).trans b14_18
    obtain ⟨m21, e21, l21, g21, H11⟩ := H11.call (X := X_laws_markByteS) (rest := [.int .i64 (upSS 1 l.rows + l.cur.length)]) (s_markByteS d (upSS 1 l.rows + l.cur.length) hd (by omega) hdu) rfl rfl (can_tb d _) rfl
    have H13 := H13.apart g21 (by omega)
    have b1_21 := (out_range g21 (n := 0) (by omega)).trans b1_20
    have b2_21 := (out_range g21 (n := m1.length) (by omega)).trans b2_20
    have b8_21 := (out_range g21 (n := m7.length) (by omega)).trans b8_20
    have b14_21 := (out_range g21 (n := m13.length) (by omega)).trans b14_20
    have e22 : fcall X_laws_eqLineResult [lrV c b (w1 k13) (w2 k13) (w3 k13) (w4 k13) t n, lrF c b [] O L] m21 = some (.bool true, m21) := f_ask (mapO2 (H13.fz fzI) (fz_lrF c b O L _)) E rfl
    obtain ⟨m23, e23, l23, g23, H13⟩ := H13.call (X := X_laws_markLineResult) (rest := [.int .i64 1]) K rfl rfl canK lenK
    have b1_23 := (out_range g23 (n := 0) (by omega)).trans b1_21
    have b2_23 := (out_range g23 (n := m1.length) (by omega)).trans b2_21
    have b8_23 := (out_range g23 (n := m7.length) (by omega)).trans b8_21
    have b14_23 := (out_range g23 (n := m13.length) (by omega)).trans b14_21
    have e24 : fcall X_laws_heldLineResult [lrV c b (w1 k13) (w2 k13) (w3 k13) (w4 k13) t n, .int .i64 1] m23 = some (.int .i64 qq, m23) := f_ask (mapO2 (H13.fz fzK) (fz_int 63 _ .i64 1)) HH rfl
    have e25 : fcall X_laws_toWay [wayV w] m23 = some (wayV w, m23) := f_toWay w _
    obtain ⟨k26, m26, q26, e26, l26, g26, H26⟩ := n_toLine l hl hb hc m23
    have H13 := H13.grow g26
    have b8_26 := (g26 m7.length (by omega)).trans b8_23
    have b14_26 := (g26 m13.length (by omega)).trans b14_23
    obtain ⟨k27, m27, q27, e27, l27, g27, H27⟩ := n_toByteS d hd m26
    have H13 := H13.grow g27
    have H26 := H26.grow g27
    have b8_27 := (g27 m7.length (by omega)).trans b8_26
    have b14_27 := (g27 m13.length (by omega)).trans b14_26
    obtain ⟨k28, m28, q28, e28, l28, g28, H28⟩ := Has.new (X := X_impl_FeedMany) (F := fun k => lrV c b (w1 k) (w2 k) (w3 k) (w4 k) t n) (m := m27) (mapO3 (fz_way w _) (H26.fz (fz_tl l)) (H27.fz (fz_tb d))) I canI hdI rnI
    have H13 := H13.grow g28
    have b8_28 := (g28 m7.length (by omega)).trans b8_27
    have b14_28 := (g28 m13.length (by omega)).trans b14_27
    obtain ⟨m29, hm29⟩ : ∃ M, m28 ++ [blk (lrC c b (w1 k28) (w2 k28) (w3 k28) (w4 k28) t n)] = M := ⟨_, rfl⟩
    have l29 := box_len hm29
    have g29 := box_grow hm29
    have H13 := H13.grow g29
    have H28 := H28.grow g29
    have b8_29 := (g29 m7.length (by omega)).trans b8_28
    have b14_29 := (g29 m13.length (by omega)).trans b14_28
    have b29_29 := box_get hm29
    have e30 : fcall X_laws_eqLineResult [lrV c b (w1 k28) (w2 k28) (w3 k28) (w4 k28) t n, lrF c b [] O L] m29 = some (.bool true, m29) := f_ask (mapO2 (H28.fz fzI) (fz_lrF c b O L _)) E rfl
    have e31 : fcall X_laws_heldLineResult [lrV c b (w1 k13) (w2 k13) (w3 k13) (w4 k13) t n, .int .i64 1] m29 = some (.int .i64 qq, m29) := f_ask (mapO2 (H13.fz fzK) (fz_int 63 _ .i64 1)) HH rfl
    have u1 : ¬ upSS 1 l.rows + (l.cur.length : Int) < 0 := by omega
    have u2 : ¬ qq < 0 := by omega
    have u3 : ¬ upSS 1 l.rows + (l.cur.length : Int) + (d.length : Int) < 0 := by omega
    have fI1 := fun k => (fI k).1
    have fI2 := fun k => (fI k).2.1
    have fI3 := fun k => (fI k).2.2.1
    have fI4 := fun k => (fI k).2.2.2
    simp (maxSteps := 2000000) -implicitDefEqProofs [-fcall_eq, -rcall_eq, X_laws_FnExactFeedMany, retK_eq, hm1, hm2, b2_2, e3, b1_2, e4, e5, e6, e7, hm8, b2_8, e9, hm10, e11, b1_11, e12, b10_11, e13, hm14, b14_14, b8_14, e15, b10_14, b2_14, e16, e17, b10_16, e18, e19, b10_18, e20, e21, b14_21, b8_21, e22, e23, b14_23, e24, b1_23, e25, b2_23, e26, e27, e28, hm29, b29_29, b8_29, e30, b14_29, e31, h0, hd0, u3, u1, u2, fI1, fI2, fI3, fI4]
end Go.Ab
namespace Go.Ab
set_option maxHeartbeats 8000000
theorem sumL_mem : ∀ (l : List (List Int)) x, x ∈ l → x.length ≤ sumL l
  | [], x, h => by cases h
  | y :: r, x, h => by
    rw [sumL]
    rcases List.mem_cons.1 h with rfl | h
    · omega
    · have := sumL_mem r x h
      omega
theorem upSS_sum (l : List (List Int)) : ∀ t : Int, upSS t l = t + sumL l := by
  induction l with
  | nil => intro t; simp [upSS, sumL]
  | cons x r ih => intro t; rw [upSS, ih, sumL]; push_cast; omega
structure LoR (w : WayT) (O : List Int) (L : LnT) (z2 z3 z4 W' : Value) (w2 w3 w4 : Nat → Value) (MI MK : Mem) (qq : Int) : Prop where
  hq : 0 ≤ qq
  fI : ∀ k, flat nilW = true ∧ flat (w2 k) = true ∧ flat (w3 k) = true ∧ flat (w4 k) = true
  can : Can (lrV 0 false nilW z2 z3 z4 L.t L.n) MI
  hd : HdM MI
  rn : ∀ N, rnV 8 hard (sft N MI.length) (lrV 0 false nilW z2 z3 z4 L.t L.n) = some (lrV 0 false nilW (w2 N) (w3 N) (w4 N) L.t L.n)
  fz : fz 64 MI (lrV 0 false nilW z2 z3 z4 L.t L.n) = some (lrF 0 false [] O L)
  eq : X_laws_eqLineResult [lrF 0 false [] O L, lrF 0 false [] O L] [] = some (.bool true, [])
  mrk : X_laws_markLineResult [lrV 0 false nilW z2 z3 z4 L.t L.n, .int .i64 1] MI = some (.int .i64 qq, MK)
  canK : Can (lrV 0 false nilW z2 z3 z4 L.t L.n) MK
  lenK : MK.length = MI.length
  fzK : Ab.fz 64 MK (lrV 0 false nilW z2 z3 z4 L.t L.n) = some W'
  held : X_laws_heldLineResult [W', .int .i64 1] [] = some (.int .i64 qq, [])
theorem lo_R (w : WayT) (H E : EdT) (ps : List EdT) (c : Nat) (t : Bool) (n : Int) (hO : (oE H).length < 1000000) (hok : lnOk ⟨ps.map oE, oE E, t, n⟩) : LoR w (oE H) ⟨ps.map oE, oE E, t, n⟩ (eV 0 H) (slQ (eB' H).length 0 ps.length c) (eV ((eB' H).length + 1) E) (lrF 0 false [] (markB 1 (oE H).length) (mkL (1 + (oE H).length) ⟨ps.map oE, oE E, t, n⟩)) (fun k => eV k H) (fun k => slQ (k + (eB' H).length) 0 ps.length c) (fun k => eV (k + ((eB' H).length + 1)) E) (loM H E ps) (loM (mkE 1 H) (mkE (upSS (1 + (oE H).length) (ps.map oE)) E) (mkP (1 + (oE H).length) ps)) (upSS (1 + (oE H).length) (ps.map oE) + (oE E).length) := by
  have hsm := lnOk_small hok
  have h40 : (ps.map oE).length ≤ 40 := hok.1
  rw [List.length_map] at h40
  have hsz : LnT.size ⟨ps.map oE, oE E, t, n⟩ ≤ 40 := hok.2.1
  unfold LnT.size at hsz
  simp only at hsz
  have hu := upSS_sum (ps.map oE) (1 + (oE H).length)
  have hup := upSS_le (1 + (oE H).length) (ps.map oE)
  have hb : ∀ x ∈ ps, (oE x).length < 1000000000 := fun x hx => by
    have := sumL_mem (ps.map oE) (oE x) (List.mem_map.2 ⟨x, hx, rfl⟩)
    omega
  have hf : ∀ (k : Nat) (E : EdT), flat (eV k E) = true := fun k E => by rcases E with _ | ⟨l, j, c⟩ <;> rfl
  refine ⟨by omega, fun k => ⟨rfl, hf _ _, rfl, hf _ _⟩, can_lo H E ps c t n (by omega), hd_lo H E ps, fun N => rn_lo H E ps c t n N, fz_lo H E ps c t n, s_eqLineResult 0 false [] (oE H) ⟨ps.map oE, oE E, t, n⟩ (by simp) (by omega) hsm, s_markLineResultP H E ps c t n (by omega) (by omega) hb (by omega) (by omega), ?_, ?_, ?_, s_heldLineResultE 0 false (oE H).length ⟨ps.map oE, oE E, t, n⟩ (by omega) (by simp only [List.length_map]; omega) (fun x hx => by have := sumL_mem (ps.map oE) x hx; omega) (by simp only; omega) (by simp only; omega)⟩
  · have := can_lo (mkE 1 H) (mkE (upSS (1 + (oE H).length) (ps.map oE)) E) (mkP (1 + (oE H).length) ps) c t n (by rw [mkP_len]; omega)
    unfold loV at this
    rw [eV_mk, eB_mk, eV_mk, mkP_len] at this
    exact this
  · rw [loM_len, loM_len, eB_mk, eB_mk, famN_mkP]
  · have := fz_lo (mkE 1 H) (mkE (upSS (1 + (oE H).length) (ps.map oE)) E) (mkP (1 + (oE H).length) ps) c t n
    unfold loV at this
    rw [eV_mk, eB_mk, eV_mk, mkP_len, oE_mk, oE_mk, oE_mkP] at this
    exact this
theorem law_bytes {l : LnT} (h : ¬ szLn l 1048576 < 0) : l.rows.length < 1100000 ∧ (∀ x ∈ l.rows, x.length < 1000000000) ∧ l.cur.length < 1000000000 ∧ l.small ∧ upSS 1 l.rows ≤ 10000000000 := by
  have h1 : ¬ szSS l.rows 1048576 < 0 := by
    intro h'
    apply h
    unfold szLn
    rw [if_pos h']
    omega
  have h2 : szLn l 1048576 = szN l.cur.length (szSS l.rows 1048576) := by unfold szLn; rw [if_neg h1]
  obtain ⟨hle, hn, hb, hu⟩ := szSS_small (l := l.rows) (x := 1048576) (by omega) (by omega)
  have hc : l.cur.length < 1000000000 := szN_small (x := szSS l.rows 1048576) hle (by omega)
  have hup := sumL_up l.rows 1
  exact ⟨by omega, hb, hc, ⟨by omega, hb, hc⟩, by omega⟩
end Go.Ab
namespace Go.Ab
open Go.Proofs
set_option maxHeartbeats 8000000
theorem typed_i64 {i : Nat} {a : Value} (h : Typed CT i [a]) (hi : (CT.ty i).d = .int .i64) : ∃ n : Int, a = .int .i64 n ∧ wfI .i64 n := typed_int h hi
end Go.Ab
namespace Go.Ab
open Go.Proofs
set_option maxHeartbeats 4000000
theorem typed_wayL {cs : List Value} (h : Typed CT 23 cs) : ∃ a b c d e f g : Int, cs = [.int .i64 a, .int .i64 b, .int .i64 c, .int .i64 d, .int .i64 e, .int .i64 f, .int .i64 g] := by
  obtain ⟨h1, h2⟩ := typed_struct h rfl
  have h1 : cs.length = 7 := h1
  match cs, h1 with
  | [a0, a1, a2, a3, a4, a5, a6], _ =>
    obtain ⟨x0, rfl, _⟩ := typed_i64 (h2 (0, 2) (by simp)) rfl
    obtain ⟨x1, rfl, _⟩ := typed_i64 (h2 (1, 2) (by simp)) rfl
    obtain ⟨x2, rfl, _⟩ := typed_i64 (h2 (2, 2) (by simp)) rfl
    obtain ⟨x3, rfl, _⟩ := typed_i64 (h2 (3, 2) (by simp)) rfl
    obtain ⟨x4, rfl, _⟩ := typed_i64 (h2 (4, 2) (by simp)) rfl
    obtain ⟨x5, rfl, _⟩ := typed_i64 (h2 (5, 2) (by simp)) rfl
    obtain ⟨x6, rfl, _⟩ := typed_i64 (h2 (6, 2) (by simp)) rfl
    exact ⟨x0, x1, x2, x3, x4, x5, x6, rfl⟩
end Go.Ab
namespace Go.Ab
open Go.Proofs
set_option maxHeartbeats 8000000
theorem typed_wayW {a : Value} (h : TypedV CT 23 a) : ∃ w : WayT, a = wayV w := by
  obtain ⟨cs, rfl, h⟩ : ∃ cs : Array Value, a = .agg cs ∧ Typed CT 23 cs.toList := h
  obtain ⟨a, b, c, d, e, f, g, e1⟩ := typed_wayL h
  obtain ⟨cs⟩ := cs
  exact ⟨⟨a, b, c, d, e, f, g⟩, by rw [show cs = _ from e1]⟩
theorem typed_u8k {a : Value} (h : Typed CT 25 [a]) : ∃ l : List Int, a = frS eU8 l ∧ l.length ≤ 9223372036854775807 ∧ bOk l := by
  obtain ⟨l, e, f, g⟩ := typed_enc eU8 (p := fun n => 0 ≤ n ∧ n < 256) h (e := 5) rfl fun x h1 h2 => by
    have h2 : x.length = 1 := h2
    match x, h2 with
    | [a], _ =>
      obtain ⟨n, rfl, hn⟩ := typed_int h1 (q := .u8) rfl
      have := wfI_u8 hn
      exact ⟨n, rfl, by omega⟩
  exact ⟨l, e, f, g⟩
theorem typed_bslk {a : Value} (h : Typed CT 24 [a]) : ∃ l : List (List Int), a = frS eBS l ∧ l.length ≤ 9223372036854775807 ∧ (∀ x ∈ l, x.length ≤ 9223372036854775807) ∧ ∀ x ∈ l, bOk x := by
  obtain ⟨l, e, f, g⟩ := typed_enc eBS (p := fun x => x.length ≤ 9223372036854775807 ∧ bOk x) h (e := 25) rfl fun x h1 h2 => by
    have h2 : x.length = 1 := h2
    match x, h2 with
    | [a], _ =>
      obtain ⟨n, rfl, hn⟩ := typed_u8k h1
      exact ⟨n, rfl, hn⟩
  exact ⟨l, e, f, fun x hx => (g x hx).1, fun x hx => (g x hx).2⟩
theorem typed_lnk {a : Value} (h : TypedV CT 27 a) : ∃ l : LnT, a = lnV l ∧ l.fit ∧ (∀ x ∈ l.rows, bOk x) ∧ bOk l.cur := by
  obtain ⟨cs, rfl, h⟩ : ∃ cs : Array Value, a = .agg cs ∧ Typed CT 27 cs.toList := h
  obtain ⟨cs⟩ := cs
  obtain ⟨h1, h2⟩ := typed_struct h rfl
  match cs, h1, h2 with
  | [a0, a1, a2, a3], _, h2 =>
    obtain ⟨x0, rfl, f0, g0, k0⟩ := typed_bslk (h2 (0, 24) (by simp))
    obtain ⟨x1, rfl, f1, k1⟩ := typed_u8k (h2 (1, 25) (by simp))
    obtain ⟨x2, rfl⟩ := typed_bool (h2 (2, 4) (by simp)) rfl
    obtain ⟨x3, rfl, _⟩ := typed_i64 (h2 (3, 2) (by simp)) rfl
    exact ⟨⟨x0, x1, x2, x3⟩, rfl, ⟨f0, g0, f1⟩, k0, k1⟩
def good : List Nat := [2, 4, 5, 25, 24, 23, 27]
theorem good_ok : goodB CT good = true := by kernel_rfl
end Go.Ab
namespace Go.Ab
open Go.Proofs
set_option maxHeartbeats 8000000
theorem fedS_len (w : WayT) : ∀ (d : List Int) {l : LnT}, lnOk l → bOk d → (fedS w l d).2.length ≤ 600 * d.length
  | [], l, h, _ => by simp [fedS]
  | y :: r, l, h, hd => by
    have h1 := feedS_len w y h
    have h2 := fedS_len w r (feedS_ok w h (hd y (by simp)).1 (hd y (by simp)).2) (fun x hx => hd x (by simp [hx]))
    rw [fedS]
    simp only [List.length_append, List.length_cons]
    omega
theorem s_FnExactFeedMany (w : WayT) (l : LnT) (d : List Int) (hf : l.fit) (hby : (∀ x ∈ l.rows, bOk x) ∧ bOk l.cur) (hdb : bOk d) : X_laws_FnExactFeedMany [wayV w, lnV l, frS eU8 d] [] = some (.bool true, []) := by
  have S0 := s_szLine l 1048576 hf (by omega) (by omega)
  by_cases hd0 : (1048576 : Int) < (d.length : Int)
  · simp (maxSteps := 2000000) -implicitDefEqProofs [X_laws_FnExactFeedMany, retK_eq, hd0]
  by_cases h0 : szLn l 1048576 < 0
  · simp (maxSteps := 2000000) -implicitDefEqProofs [X_laws_FnExactFeedMany, retK_eq, S0, h0, hd0]
  obtain ⟨hl, hb, hc, hsm, hup⟩ := law_bytes h0
  have bad : ∀ c, X_spec_FeedMany (fmS w l d) [] = some (lrB c, []) → X_impl_FeedMany (fmA w l d) [] = some (lrB c, []) → X_laws_FnExactFeedMany [wayV w, lnV l, frS eU8 d] [] = some (.bool true, []) := fun c S I =>
    law_core w l d (by omega) hd0 (by omega) hl hb hc hsm hup S0 h0 c false false 0 [] ⟨[], [], false, 0⟩ (lrB c) nilW nilW nilW nilW (lrF c false [] [] ⟨[], [], false, 0⟩) (fun _ => nilW) (fun _ => nilW) (fun _ => nilW) (fun _ => nilW) [] [] [] 1 (by omega) (fun _ => ⟨rfl, rfl, rfl, rfl⟩) S (fz_rb c) I (can_rb c) hd_nil (rn_rb c) (fz_rb c) (s_eqLineResult c false [] [] ⟨[], [], false, 0⟩ (by simp) (by simp) ⟨by simp, by simp, by simp⟩) (s_markLineResult_b c) (can_rb c) rfl (fz_rb c) (by
      have := s_heldLineResultE c false 0 ⟨[], [], false, 0⟩ (by omega) (by simp) (by simp) (by simp) (by simp [upSS])
      simpa [markB, mkL, upSS, markSS] using this)
  by_cases hk : askF w l = 0
  · by_cases hd2 : 200 < d.length
    · exact bad 2 (s_spec_FM_2 w l d hsm hk hd2) (s_impl_FM_2 w l d hsm hk hd2)
    have hok := lnOk_ask hk hby
    obtain ⟨R2, E2, q1, q2, S⟩ := s_spec_FM w l d hsm hk hby hok (by omega) hdb
    obtain ⟨hE, eE, ps, c, p1, p2, p3, I⟩ := s_impl_FM w l d hk hby (by omega) hdb
    have hok2 := fedS_ok w d hok hdb
    have hO := fedS_len w d hok hdb
    generalize fedS w l d = SS at *
    obtain ⟨⟨Sr, Sc, St, Sn⟩, O⟩ := SS
    simp only at q1 q2 p1 p2 p3 hO hok2 S I
    subst p1 p2 p3
    have fS := fz_spM (oE hE) R2 E2 St Sn
    rw [q1, q2] at fS
    have R := lo_R w hE eE ps c St Sn (by omega) hok2
    exact law_core w l d (by omega) hd0 (by omega) hl hb hc hsm hup S0 h0 0 false St Sn (oE hE) ⟨ps.map oE, oE eE, St, Sn⟩ _ _ _ _ _ _ (fun _ => nilW) _ _ _ _ _ _ _ R.hq R.fI S fS I R.can R.hd R.rn R.fz R.eq R.mrk R.canK R.lenK R.fzK R.held
  · exact bad _ (s_spec_FM_bad w l d hsm hk) (s_impl_FM_bad w l d hsm hk)
theorem all_FnExactFeedMany : ∀ xs, TypedAll CT [23, 27, 25] xs → Fz CT 4 xs (.bool true)
  | [a, b, c], h => by
    obtain ⟨w, rfl⟩ := typed_wayW h.1
    obtain ⟨l, rfl, hl, hb⟩ := typed_lnk h.2.1
    obtain ⟨d, rfl, _, hd⟩ := typed_u8k h.2.2.1
    exact fz_law ok_X_laws_FnExactFeedMany (s_FnExactFeedMany w l d hl hb hd) (by simp)
  | [], h => h.elim
  | [_], h => h.2.elim
  | [_, _], h => h.2.2.elim
  | _ :: _ :: _ :: _ :: _, h => h.2.2.2.elim
end Go.Ab
