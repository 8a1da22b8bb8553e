/- What the functions of the program answer, for all arguments that the theorems name as conditions. -/
import Derived.Test.YtnmjgjedkdmefaaS12Mi
import Derived.Test.YtnmjgjedkdmefaaS12Mh
import Derived.Test.YtnmjgjedkdmefaaS12Mg
import Derived.Test.YtnmjgjedkdmefaaS12Md
import Derived.Test.YtnmjgjedkdmefaaS12Ma
set_option linter.unusedVariables false
set_option linter.unusedSimpArgs false
namespace Go.Ab
set_option maxHeartbeats 8000000
theorem has_lo {m : Mem} {r n c : Nat} {ix ne nh : List Nat} {H E : EdT} {es : List (El Int)} {ev hv : Value} {t : Bool} {k : Int} (hF : Fam eU8 m r 1 ix es) (hh : SlE m hv H nh) (he : SlE m ev E ne) (hn : (nh ++ (r :: (ne ++ ix))).Nodup) (hl : famN es < 4000000) : Has m (lrV 0 false nilW hv (slQ r 0 n c) ev t k) (nh ++ (r :: (ne ++ ix))) (lrV 0 false nilW (eV 0 H) (slQ (eB' H).length 0 n c) (eV ((eB' H).length + 1) E) t k) (eB' H ++ liP (eB' H).length E es) := by
  have hx := hF.len
  have nmr : nmB ⟨famI ix es, 1, true, true⟩ = ix := hF.nmB
  rcases he with ⟨rfl, rfl, rfl⟩ | ⟨l, j, ce, e, rfl, rfl, rfl, he⟩ <;> rcases hh with ⟨rfl, rfl, rfl⟩ | ⟨lh, jh, ch, h, rfl, rfl, rfl, hh⟩
  · have hn : ([r] ++ ix).Nodup := by simpa using hn
    have h1 : reachF 4194304 m [r] [] = some (r :: ix) := by
      rw [reach_one hF.out (by simp) nmr, List.nil_append]
      exact hF.tail eU8 [r] (fun n hn' h => by simp at h; subst h; exact (List.nodup_cons.1 hn).1 hn') (by omega)
    have lo : locB (r :: ix) ⟨famI ix es, 1, true, true⟩ = some (famB 1 1 es) := hF.locO eU8 (pre := [r]) hn
    have h2' : locM m (r :: ix) (r :: ix) = some (famB 1 1 es :: famM eU8 es) := by
      rw [loc_one hF.out lo, hF.locI]
      rfl
    exact has_of h1 h2' (by simp)
  · have hn : ([h, r] ++ ix).Nodup := by simpa using hn
    have h1 : reachF 4194304 m [h, r] [] = some (h :: r :: ix) := by
      rw [reach_one hh (by simp) (nmB_own eU8 _), List.append_nil, reach_one hF.out (by intro q; simp at q; subst q; simp at hn) nmr, List.nil_append]
      exact hF.tail eU8 [h, r] (fun n hn' q => by
        rw [List.nodup_append] at hn
        exact hn.2.2 n q n hn' rfl) (by omega)
    have lo : locB (h :: r :: ix) ⟨famI ix es, 1, true, true⟩ = some (famB 2 1 es) := hF.locO eU8 (pre := [h, r]) hn
    have h2' : locM m (h :: r :: ix) (h :: r :: ix) = some (ownB eU8 (lh ++ jh) :: famB 2 1 es :: famM eU8 es) := by
      rw [loc_one hh (locB_own eU8 _ _), loc_one hF.out lo, hF.locI]
      rfl
    have hne : ¬ h = r := by intro q; subst q; simp at hn
    exact has_of h1 h2' (by simp [hne])
  · have hn : ([r, e] ++ ix).Nodup := by simpa using hn
    have h1 : reachF 4194304 m [r, e] [] = some (r :: e :: ix) := by
      rw [reach_one hF.out (by simp) nmr, List.cons_append, List.nil_append, reach_one he (by intro q; simp at q; subst q; simp at hn) (nmB_own eU8 _), List.append_nil]
      exact hF.tail eU8 [r, e] (fun n hn' q => by
        rw [List.nodup_append] at hn
        exact hn.2.2 n q n hn' rfl) (by omega)
    have lo : locB (r :: e :: ix) ⟨famI ix es, 1, true, true⟩ = some (famB 2 1 es) := hF.locO eU8 (pre := [r, e]) hn
    have h2' : locM m (r :: e :: ix) (r :: e :: ix) = some (famB 2 1 es :: ownB eU8 (l ++ j) :: famM eU8 es) := by
      rw [loc_one hF.out lo, loc_one he (locB_own eU8 _ _), hF.locI]
      rfl
    have hne : ¬ r = e := by intro q; subst q; simp at hn
    exact has_of h1 h2' (by simp [hne])
  · have hn : ([h, r, e] ++ ix).Nodup := by simpa using hn
    have q1 : ¬ h = r := by intro q; subst q; simp at hn
    have q2 : ¬ h = e := by intro q; subst q; simp at hn
    have q3 : ¬ r = e := by intro q; subst q; simp at hn
    have h1 : reachF 4194304 m [h, r, e] [] = some (h :: r :: e :: ix) := by
      rw [reach_one hh (by simp) (nmB_own eU8 _), List.append_nil, reach_one hF.out (by simpa using fun q => q1 q.symm) nmr, List.cons_append, List.nil_append, reach_one he (by simpa using ⟨fun q => q2 q.symm, fun q => q3 q.symm⟩) (nmB_own eU8 _), List.append_nil]
      exact hF.tail eU8 [h, r, e] (fun n hn' q => by
        rw [List.nodup_append] at hn
        exact hn.2.2 n q n hn' rfl) (by omega)
    have lo : locB (h :: r :: e :: ix) ⟨famI ix es, 1, true, true⟩ = some (famB 3 1 es) := hF.locO eU8 (pre := [h, r, e]) hn
    have h2' : locM m (h :: r :: e :: ix) (h :: r :: e :: ix) = some (ownB eU8 (lh ++ jh) :: famB 3 1 es :: ownB eU8 (l ++ j) :: famM eU8 es) := by
      rw [loc_one hh (locB_own eU8 _ _), loc_one hF.out lo, loc_one he (locB_own eU8 _ _), hF.locI]
      rfl
    exact has_of h1 h2' (by simp [q1, q2, q3])
theorem loM_ln (H E : EdT) (ps : List EdT) (Q : Mem) : loM H E ps ++ Q = eB' H ++ (liP (eB' H).length E (ps.map elP) ++ Q) := by
  rw [← List.append_assoc]
theorem loM_len (H E : EdT) (ps : List EdT) : (loM H E ps).length = (eB' H).length + (1 + (eB' E).length + famN (ps.map elP)) := by
  show (eB' H ++ liP (eB' H).length E (ps.map elP)).length = _
  rw [List.length_append, liP_len]
theorem can_lo (H E : EdT) (ps : List EdT) (c : Nat) (t : Bool) (n : Int) (hp : ps.length < 1000000) : Can (loV H E ps c t n) (loM H E ps) := by
  have hN := famN_P ps
  obtain ⟨hF, hS⟩ := row_ln (eB' H) [] E (ps.map elP) (ok_P ps)
  have hh : SlE (eB' H ++ (liP (eB' H).length E (ps.map elP) ++ [])) (eV 0 H) H (List.range' 0 (eB' H).length) := by
    rcases H with _ | ⟨l, j, ce⟩
    · exact .inl ⟨rfl, rfl, rfl⟩
    · exact .inr ⟨l, j, ce, 0, rfl, rfl, rfl, rfl⟩
  have er : List.range' 0 (eB' H).length ++ ((eB' H).length :: (List.range' ((eB' H).length + 1) (eB' E).length ++ List.range' ((eB' H).length + 1 + (eB' E).length) (famN (ps.map elP)))) = List.range (loM H E ps).length := by
    rw [rng_ln, loM_len, List.range_eq_range']
    have := List.range'_append_1 (s := 0) (m := (eB' H).length) (n := 1 + (eB' E).length + famN (ps.map elP))
    rw [Nat.zero_add] at this
    exact this
  have h := has_lo (n := ps.length) (c := c) (t := t) (k := n) hF hh hS (by rw [er]; exact List.nodup_range) (by omega)
  rw [er] at h
  rw [List.append_nil] at h
  exact h
theorem elP_okH (E : EdT) : (elP E).okH := by rcases E with _ | ⟨l, j, c⟩ <;> exact ⟨rfl, rfl⟩
theorem okH_P (ps : List EdT) : ∀ e ∈ ps.map elP, e.okH := by
  intro e he
  obtain ⟨x, _, rfl⟩ := List.mem_map.1 he
  exact elP_okH x
theorem hd_lo (H E : EdT) (ps : List EdT) : HdM (loM H E ps) := by
  intro N
  refine mapB_mk fun i b hb => ?_
  have hm := List.mem_of_getElem? hb
  have hlen := loM_len H E ps
  rcases List.mem_append.1 hm with hm | hm
  · obtain ⟨l, rfl⟩ := eB_own H b hm
    exact ⟨_, shB_own eU8 eU8_hard _ _ l⟩
  · rcases List.mem_cons.1 hm with rfl | hm
    · have hr := fam_rnH eU8 (j := 7) (π := sft N (loM H E ps).length) (ps.map elP) ((eB' H).length + 1 + (eB' E).length) (N + ((eB' H).length + 1 + (eB' E).length)) (ok_P ps) (okH_P ps) (fun i hi => by unfold sft; rw [if_pos (by omega)]; congr 1; omega)
      unfold shB famB
      rw [if_pos ⟨rfl, rfl⟩]
      split
      · exact ⟨_, rfl⟩
      · exact ⟨_, by rw [hr]; rfl⟩
    · obtain ⟨j, hj, rfl⟩ := List.getElem_of_mem hm
      obtain ⟨x, e⟩ := own_allP E (ps.map elP) j hj
      rw [List.getElem?_eq_getElem hj] at e
      rw [Option.some.inj e]
      exact ⟨_, shB_own eU8 eU8_hard _ _ x⟩
theorem rn_lo (H E : EdT) (ps : List EdT) (c : Nat) (t : Bool) (n : Int) (N : Nat) : rnV 8 hard (sft N (loM H E ps).length) (loV H E ps c t n) = some (lrV 0 false nilW (eV N H) (slQ (N + (eB' H).length) 0 ps.length c) (eV (N + ((eB' H).length + 1)) E) t n) := by
  rw [loM_len]
  generalize hLL : (eB' H).length + (1 + (eB' E).length + famN (ps.map elP)) = LL
  have h1 : (eB' H).length < LL := by omega
  rcases H with _ | ⟨lh, jh, ch⟩ <;> rcases E with _ | ⟨l, j, ce⟩
  · have h1 : 0 < LL := h1
    simp [h1]
  · have h1 : 0 < LL := h1
    have h2 : 1 < LL := by simp at hLL; omega
    simp [h1, h2]
  · have h0 : 0 < LL := by omega
    have h1 : 1 < LL := h1
    simp [h0, h1]
  · have h0 : 0 < LL := by omega
    have h1 : 1 < LL := h1
    have h2 : 2 < LL := by simp at hLL; omega
    simp [h0, h1, h2]
theorem fz_lo (H E : EdT) (ps : List EdT) (c : Nat) (t : Bool) (n : Int) : fz 64 (loM H E ps) (loV H E ps c t n) = some (lrF 0 false [] (oE H) ⟨ps.map oE, oE E, t, n⟩) := by
  have f1 : fz 63 (loM H E ps) (eV 0 H) = some (frS eU8 (oE H)) := fz_eE 60 _ 0 H fun cc q nn h => by subst h; rfl
  have hj : (loM H E ps)[(eB' H).length]? = some (famB ((eB' H).length + 1 + (eB' E).length) 1 ([] ++ ps.map elP)) := by
    unfold loM
    rw [List.getElem?_append_right (Nat.le_refl _), Nat.sub_self]
    rfl
  have hm : loM H E ps = (eB' H ++ (famB ((eB' H).length + 1 + (eB' E).length) 1 (ps.map elP) :: eB' E)) ++ (famM eU8 (ps.map elP) ++ []) := by
    rw [List.append_nil, List.append_assoc]
    rfl
  have hP : (eB' H ++ (famB ((eB' H).length + 1 + (eB' E).length) 1 (ps.map elP) :: eB' E)).length = (eB' H).length + 1 + (eB' E).length + famN ([] : List (El Int)) := by
    rw [List.length_append, List.length_cons, famN]
    omega
  have f2 : fz 63 (loM H E ps) (slQ (eB' H).length 0 ps.length c) = some (frS eBS (ps.map oE)) := by
    have := fz_partF (k := 60) (c := c) (L := []) (R := ps.map elP) hj hm hP (ok_P ps) (by simp) (fun e he => by obtain ⟨x, _, rfl⟩ := List.mem_map.1 he; exact elP_sz x)
    rw [List.length_map, fro_P] at this
    refine this.trans ?_
    unfold frS
    rw [List.length_map]
  have f3 : fz 63 (loM H E ps) (eV ((eB' H).length + 1) E) = some (frS eU8 (oE E)) := fz_eE 60 _ _ E fun cc q nn h => by
    subst h
    unfold loM
    rw [List.getElem?_append_right (by omega), Nat.add_sub_cancel_left]
    rfl
  rw [fz_agg]
  simp only [mapO, f1, f2, f3]
  rfl
theorem s_markLineResultP (H E : EdT) (ps : List EdT) (c : Nat) (tt : Bool) (n : Int) (hh : (oE H).length < 1000000000) (hl : ps.length < 1000000) (hb : ∀ x ∈ ps, (oE x).length < 1000000000) (hc : (oE E).length < 1000000000) (h1 : upSS (1 + (oE H).length) (ps.map oE) ≤ 10000000000) : X_laws_markLineResult [loV H E ps c tt n, .int .i64 1] (loM H E ps) = some (.int .i64 (upSS (1 + (oE H).length) (ps.map oE) + (oE E).length), loM (mkE 1 H) (mkE (upSS (1 + (oE H).length) (ps.map oE)) E) (mkP (1 + (oE H).length) ps)) := by
  have hup := upSS_le (1 + (oE H).length) (ps.map oE)
  have hN := famN_P ps
  have hE := eB_le E
  have hH := eB_le H
  have c0 := fun m => rc_nilW m 1
  have c1 : ∀ Q, rcall X_laws_markByteS [eV 0 H, .int .i64 1] (loM H E ps ++ Q) = some (.int .i64 (1 + (oE H).length), loM (mkE 1 H) E ps ++ Q) := fun Q => by
    rcases H with _ | ⟨l, j, ch⟩
    · have hr := rc_nilW (loM none E ps ++ Q) 1
      exact hr
    · have hc' : l.length < 1000000000 := hh
      have := rcall_one (m := loM (some (l, j, ch)) E ps ++ Q) (a := 0) (n := l.length) (c := ch) (l := l ++ j) rfl (rest := [.int .i64 1]) rfl (v := .int .i64 (1 + l.length)) rfl (s_markByteST l j ch 1 hc' (by omega) (by omega))
      exact this
  have c2 : ∀ Q, rcall X_laws_markLine [.agg #[slQ (eB' H).length 0 ps.length c, eV ((eB' H).length + 1) E, .bool tt, .int .i64 n], .int .i64 (1 + (oE H).length)] (loM (mkE 1 H) E ps ++ Q) = some (.int .i64 (upSS (1 + (oE H).length) (ps.map oE) + (oE E).length), loM (mkE 1 H) (mkE (upSS (1 + (oE H).length) (ps.map oE)) E) (mkP (1 + (oE H).length) ps) ++ Q) := fun Q => by
    rw [loM_ln, loM_ln, ← eB_mk 1 H]
    exact rcall_liP (eB' (mkE 1 H)) Q E (mkE (upSS (1 + (oE H).length) (ps.map oE)) E) ps.length c tt n (ps.map elP) ((mkP (1 + (oE H).length) ps).map elP) [.int .i64 (1 + (oE H).length)] (.int .i64 (upSS (1 + (oE H).length) (ps.map oE) + (oE E).length)) rfl rfl (ok_P _) (ok_P _) (famN_mkP _ _) (eB_mk _ _) (by omega) (s_markLineP E ps c tt n (1 + (oE H).length) hl hb hc (by omega) h1)
  generalize upSS (1 + (oE H).length) (ps.map oE) = U at *
  have l0 := loM_len H E ps
  have l1 := loM_len (mkE 1 H) E ps
  have l2 := loM_len (mkE 1 H) (mkE U E) (mkP (1 + (oE H).length) ps)
  rw [eB_mk] at l1
  rw [eB_mk, eB_mk, famN_mkP] at l2
  have ok : OkM (loM (mkE 1 H) (mkE U E) (mkP (1 + (oE H).length) ps)) := by
    intro b hb
    rw [l2]
    rcases List.mem_append.1 hb with hb | hb
    · obtain ⟨x, rfl⟩ := eB_own _ b hb
      exact own_ok eU8 x
    · exact liP_ok (eB' (mkE 1 H)).length _ _ _ (ok_P _) (by rw [eB_mk, eB_mk, famN_mkP]; omega) b hb
  have hn : nms (loM (mkE 1 H) (mkE U E) (mkP (1 + (oE H).length) ps)) = famN (ps.map elP) := by
    have := liP_nms (eB' (mkE 1 H)).length (mkE U E) ((mkP (1 + (oE H).length) ps).map elP) (ok_P _)
    rw [famN_mkP] at this
    show nms (_ ++ liP _ _ _) = _
    rw [nms_app, this, nms_eB]
    omega
  have hret := fun pv Q => ok.retA Q (by omega) (v := .int .i64 (U + (oE E).length)) rfl pv
  rw [l2, ← l0] at hret
  have hbx0 : ∀ b : Blk, (loM H E ps ++ [b])[(loM H E ps).length]? = some b := fun b => by simp
  have hbx1 : ∀ b : Blk, (loM (mkE 1 H) E ps ++ [b])[(loM H E ps).length]? = some b := fun b => by rw [l0, ← l1]; simp
  have hf1 : flat (eV 0 H) = true := by rcases H with _ | ⟨l, j, c⟩ <;> rfl
  have hf2 : flat (eV ((eB' H).length + 1) E) = true := by rcases E with _ | ⟨l, j, c⟩ <;> rfl
  clear l0 l1 l2 ok hn
  generalize loM (mkE 1 H) (mkE U E) (mkP (1 + (oE H).length) ps) = M2 at *
  generalize loM (mkE 1 H) E ps = M1 at *
  generalize loM H E ps = M0 at *
  unfold loV at *
  generalize eV ((eB' H).length + 1) E = EV at *
  generalize eV 0 H = HV at *
  generalize (eB' H).length = K at *
  generalize (oE E).length = OL at *
  generalize (oE H).length = HL at *
  simp (maxSteps := 400000) -implicitDefEqProofs [-rcall_eq, X_laws_markLineResult, c0, c1, c2, hbx0, hbx1, hret, hf1, hf2]
theorem s_heldLineResultE (c : Int) (b : Bool) (o : Nat) (l : LnT) (ho : o < 1000000000) (hl : l.rows.length < 1100000) (hb : ∀ x ∈ l.rows, x.length < 1000000000) (hc : l.cur.length < 1000000000) (h1 : upSS (1 + o) l.rows ≤ 10000000000) : X_laws_heldLineResult [lrF c b [] (markB 1 o) (mkL (1 + o) l), .int .i64 1] [] = some (.int .i64 (upSS (1 + o) l.rows + l.cur.length), []) := by
  have hup := upSS_le (1 + o) l.rows
  have c1 := s_heldByteS 0 1 (by omega) (by omega) (by omega)
  have c2 := s_heldByteS o 1 ho (by omega) (by omega)
  have e : markB (1 : Int) 0 = [] := rfl
  rw [e, Int.natCast_zero, Int.add_zero] at c1
  have c3 := s_heldLine l (1 + o) hl hb hc (by omega) h1
  have g1 : ¬ 1 + (o : Int) < 0 := by omega
  have g2 : ¬ upSS (1 + o) l.rows + (l.cur.length : Int) < 0 := by omega
  simp -implicitDefEqProofs [X_laws_heldLineResult, retK_eq, c1, c2, c3, g1, g2]
end Go.Ab
namespace Go.Ab
set_option maxHeartbeats 8000000
theorem s_toWayR (w : WayT) : X_laws_toWay [wayV w] [] = some (wayV w, []) := by
  simp (maxSteps := 400000) -implicitDefEqProofs [X_laws_toWay, retK_eq]
theorem f_toWay (w : WayT) (m : Mem) : fcall X_laws_toWay [wayV w] m = some (wayV w, m) := by
  have h := s_toWayR w
  simp (maxSteps := 400000) -implicitDefEqProofs [h]
theorem fz_way (w : WayT) (m : Mem) : fz 64 m (wayV w) = some (wayV w) := by simp
theorem fz_lrF (c : Int) (b : Bool) (O : List Int) (L : LnT) (m : Mem) : fz 64 m (lrF c b [] O L) = some (lrF c b [] O L) := by simp
theorem can_mL (l : LnT) (hl : l.rows.length < 1100000) : Can (tlW 0 l) (tlM (mkL 1 l)) := by
  have h := can_tl (mkL 1 l) (by simp only [markSS_len]; exact hl)
  simp only [tlW, markSS_len, markB_len] at h
  exact h
theorem len_mL (l : LnT) : (tlM (mkL 1 l)).length = (tlM l).length := by
  have hN : ∀ r : List (List Int), famN (r.map elS) = r.length := elS_N
  simp [hN, markSS_len]
end Go.Ab
namespace Go.Ab
set_option maxHeartbeats 8000000
abbrev fmA (w : WayT) (l : LnT) (d : List Int) : List Value := [wayV w, lnV l, frS eU8 d]
theorem s_impl_FM_bad (w : WayT) (l : LnT) (d : List Int) (hl : l.small) (hf : askF w l ≠ 0) : X_impl_FeedMany (fmA w l d) [] = some (lrB (askF w l), []) := by
  have c1 := s_impl_WayFault w
  have c2 := s_impl_LineFault l hl
  have c3 := s_impl_first3
  have e : (if wayF w = 0 then lineF l else wayF w) = askF w l := rfl
  by_cases h2 : (d.length : Int) ≤ 200
  · by_cases h1 : wayF w = 0
    · rw [if_pos h1] at e
      rw [← e] at hf ⊢
      simp (maxSteps := 400000) -implicitDefEqProofs [X_impl_FeedMany, retK_eq, c1, c2, c3, s_impl_unless, unl, h1, h2, hf]
    · rw [if_neg h1] at e
      rw [← e] at hf ⊢
      simp (maxSteps := 400000) -implicitDefEqProofs [X_impl_FeedMany, retK_eq, c1, c2, c3, s_impl_unless, unl, h1, h2, hf]
  · by_cases h1 : wayF w = 0
    · rw [if_pos h1] at e
      rw [← e] at hf ⊢
      simp (maxSteps := 400000) -implicitDefEqProofs [X_impl_FeedMany, retK_eq, c1, c2, c3, s_impl_unless, unl, h1, h2, hf]
    · rw [if_neg h1] at e
      rw [← e] at hf ⊢
      simp (maxSteps := 400000) -implicitDefEqProofs [X_impl_FeedMany, retK_eq, c1, c2, c3, s_impl_unless, unl, h1, h2, hf]
theorem ask_two {w : WayT} {l : LnT} (hf : askF w l = 0) : wayF w = 0 ∧ lineF l = 0 := by
  have h1 : wayF w = 0 := by
    by_cases h : wayF w = 0
    · exact h
    · unfold askF at hf; rw [if_neg h] at hf; exact absurd hf h
  exact ⟨h1, by unfold askF at hf; rwa [if_pos h1] at hf⟩
theorem s_impl_FM_2 (w : WayT) (l : LnT) (d : List Int) (hl : l.small) (hf : askF w l = 0) (hd : 200 < d.length) : X_impl_FeedMany (fmA w l d) [] = some (lrB 2, []) := by
  have c1 := s_impl_WayFault w
  have c2 := s_impl_LineFault l hl
  have c3 := s_impl_first3
  obtain ⟨h1, h2⟩ := ask_two hf
  have h3 : ¬ (d.length : Int) ≤ 200 := by omega
  simp (maxSteps := 400000) -implicitDefEqProofs [X_impl_FeedMany, retK_eq, c1, c2, c3, s_impl_unless, unl, h1, h2, h3]
theorem dat_fr (m : Mem) (d : List Int) : Dat m (frS eU8 d) d := fun i hi => by
  have hx := ixa_frS eU8 (sz := 1) rfl .i64 (l := d) (j := (i : Int)) (by omega) (by omega)
  rw [Int.toNat_natCast] at hx
  exact ⟨_, hx, rfl⟩
theorem s_impl_FM (w : WayT) (l : LnT) (d : List Int) (hf : askF w l = 0) (hb : (∀ x ∈ l.rows, bOk x) ∧ bOk l.cur) (hd : d.length ≤ 200) (hdb : bOk d) : ∃ hE eE ps c, oE hE = (fedS w l d).2 ∧ oE eE = (fedS w l d).1.cur ∧ ps.map oE = (fedS w l d).1.rows ∧ X_impl_FeedMany (fmA w l d) [] = some (loV hE eE ps c (fedS w l d).1.t (fedS w l d).1.n, loM hE eE ps) := by
  have hok := lnOk_ask hf hb
  have hsm := lnOk_small hok
  have c1 := s_impl_WayFault w
  have c2 := s_impl_LineFault l hsm
  have c3 := s_impl_first3
  obtain ⟨h1, h2⟩ := ask_two hf
  have hc : Closed [wB w, blk (lnT l []), zR8, ownB eI6 [0, 0, 0]] := by
    refine (Closed.nil).appL (L := [wB w, blk (lnT l []), zR8, ownB eI6 [0, 0, 0]]) fun b hb _ => ?_
    simp only [List.mem_cons, List.not_mem_nil, or_false] at hb
    rcases hb with rfl | rfl | rfl | rfl <;> exact .leaf rfl
  have hok2 := fedS_ok w d hok hdb
  obtain ⟨m', rv, ev, hv, r, ix, ne, nh, ps, c, e, O, fr⟩ := d_fed (m := [wB w, blk (lnT l []), zR8, ownB eI6 [0, 0, 0]]) w l (frS eU8 d) d hc hok hdb hd rfl (fun m' h => dat_fr m' d) (.inert _ rfl)
  have h2c : m'[2]? = some zR8 := by rw [fr 2 (by simp)]; rfl
  have O2 := O.set 2 (blk (lrC 0 false nilW hv rv ev (fedS w l d).1.t (fedS w l d).1.n)) (by simp)
  obtain ⟨hE, eE, q1, q2, q3, q4⟩ := O2.ret (by have := hok2.1; omega) (fmA w l d)
  refine ⟨hE, eE, ps, c, q1, q2, q3, ?_⟩
  rw [← q4]
  have hev := O.es.val
  have hhv := O.hs.val
  have hrv : rv.cells = #[rv] ∧ flat rv = true := by rw [O.rs.val]; exact ⟨rfl, rfl⟩
  have hset : ∀ x : Blk, (m'.set 2 x)[2]? = some x := fun x => List.getElem?_set_self (List.getElem?_eq_some_iff.1 h2c).1
  have e' : dcall X_impl_fed [wayV w, lnV l, frS eU8 d] [wB w, blk (lnT l []), zR8, ⟨[.int .i64 0, .int .i64 0, .int .i64 0], 1, true, true⟩] = some (lrV 0 false nilW hv rv ev (fedS w l d).1.t (fedS w l d).1.n, m') := e
  have h3 : (d.length : Int) ≤ 200 := by omega
  clear q4 O O2 fr e
  generalize fedS w l d = S at *
  simp (maxSteps := 400000) -implicitDefEqProofs [X_impl_FeedMany, c1, c2, c3, s_impl_unless, unl, h1, h2, h3, e', h2c, hset, hev.1, hev.2, hhv.1, hhv.2, hrv.1, hrv.2]
end Go.Ab
namespace Go.Ab
set_option maxHeartbeats 8000000
@[simp] def Fm.R2 (R : Option (List (List Int))) : Fm → Option (List (List Int))
  | .u _ => R
  | .t _ => R
  | .n r _ => some r
@[simp] def Fm.E2 : Fm → EdT
  | .u E => E
  | .t c => some (c, [], c.length)
  | .n _ E => E
theorem Fm.ln2 (R : Option (List (List Int))) (t : Bool) (n : Int) (F : Fm) : F.ln R t n = ⟨oR (F.R2 R), oE F.E2, t, n⟩ := by cases F <;> rfl
abbrev rowR (l : List (List Int)) : Option (List (List Int)) := if l = [] then none else some l
theorem oR_rowR (l : List (List Int)) : oR (rowR l) = l := by
  unfold rowR
  split
  · rename_i h; rw [h]; rfl
  · rfl
end Go.Ab
namespace Go.Ab
set_option maxHeartbeats 8000000
abbrev zRb : Blk := blk [.int .i64 0, .bool false, nilW, nilW, nilW, nilW, .bool false, .int .i64 0]
@[simp] abbrev hV (k : Nat) (z : Zt) : Value := match z with
  | .o l j c => slQ k 0 l.length c
  | _ => nilW
@[simp] abbrev lB8 (z : Zt) (rv ev : Value) (t : Bool) (n : Int) : Blk := blk [.int .i64 0, .bool false, nilW, hV 3 z, rv, ev, .bool t, .int .i64 n]
@[simp] abbrev fB (w : WayT) (z : Zt) (R : Option (List (List Int))) (E : EdT) (t : Bool) (n : Int) : Mem := wB w :: zRb :: lB8 z (rV (3 + (hB z).length) R) (eV (3 + (hB z).length + (rB R).length) E) t n :: (hB z ++ (rB R ++ eB' E))
def eZ (ec : List Int) : Zt := if ec = [] then .n else .o ec [] ec.length
theorem eZ_nil : eZ [] = .n := if_pos rfl
theorem eZ_some {ec : List Int} (h : ec ≠ []) : eZ ec = .o ec [] ec.length := if_neg h
theorem ap_nil0 (m : Mem) (k c : Nat) : apL m 1 1 nilW (slQ k 0 0 c) = some (nilW, m) := by
  rfl
theorem rd_allS (x : List Int) : rdM (some (ownB eU8 x)) 0 x.length = some (cellsE eU8 x) := by
  have := rd_all x
  rwa [Nat.mul_one] at this
theorem ap_nil1 (m : Mem) (k : Nat) (O : List Int) (hk : m[k]? = some (ownB eU8 O)) (h : O ≠ []) (hl : O.length < 1000000000) : apL m 1 1 nilW (slO k O.length) = some (slO m.length O.length, m ++ [ownB eU8 O]) := by
  have hp := List.length_pos_iff.2 h
  show (ob (rd m k 0 (O.length * 1)) fun cs => appendIn m 1 1 (.slice none 0 0) cs O.length) = _
  rw [rd_rdM, hk, rd_all, ob_some]
  show (if O.length = 0 then _ else if O.length * 1 ≤ 140737488355328 ∧ O.length ≤ 140737488355328 then _ else none) = _
  rw [if_neg (by omega), if_pos ⟨by omega, by omega⟩]
  rfl
theorem l_FM_step (w : WayT) (ec : List Int) (R : Option (List (List Int))) (E : EdT) (t : Bool) (n : Int) (p : List Int) (y : Int) (r : List Int) (q : Nat) (hok : lnOk (lnO R E t n)) (hE : wfE E) (y0 : 0 ≤ y) (y1 : y < 256) (hd : (p ++ y :: r).length < 1000000) (he : ec.length + 1000 < 1000000000) : ∃ R2 E2, oR R2 = (feedS w (lnO R E t n) y).1.rows ∧ oE E2 = (feedS w (lnO R E t n) y).1.cur ∧ wfE E2 ∧ L_spec_FeedMany 0 (q + 1) 0 [frS eU8 (p ++ y :: r), ptr 0, ptr 1, ptr 2, .int .i64 p.length] (fB w (eZ ec) R E t n) = L_spec_FeedMany 0 q 0 [frS eU8 (p ++ y :: r), ptr 0, ptr 1, ptr 2, .int .i64 (p.length + 1)] (fB w (eZ (ec ++ (feedS w (lnO R E t n) y).2)) R2 E2 (feedS w (lnO R E t n) y).1.t (feedS w (lnO R E t n) y).1.n) := by
  have hO := feedS_len w y hok
  have hsm := lnOk_small hok
  have hX := x_Feed w (eZ ec) nilW nilW rfl rfl R E t n y hok.1 hE (fun t' n' => hsm) (by have := hok.2.2.1; simp only at this; omega) (by have := hok.2.2.2.1; simp only at this; omega) y0 y1
  obtain ⟨F, t', n', g1, g2, g3, g4⟩ := hX
  rw [Fm.ln2] at g4
  generalize feedS w (lnO R E t n) y = S at *
  obtain ⟨⟨Sr, Sc, St, Sn⟩, O⟩ := S
  simp only [LnT.mk.injEq] at g4
  obtain ⟨q1, q2, q3, q4⟩ := g4
  subst q3 q4
  have wf2 : wfE F.E2 := by
    cases F with
    | u E' => exact g2
    | t c => exact ⟨Nat.le_refl _, g2⟩
    | n r E' => exact g2
  refine ⟨F.R2 R, F.E2, q1, q2, wf2, ?_⟩
  clear q1 q2 wf2
  simp only at hO g3 ⊢
  have hx := ixa_mid eU8 (sz := 1) rfl .i64 p y r
  have hw := wrap_next (n := p.length) (by simp at hd; omega)
  have e5 : (p.length : Int) < ((p ++ y :: r).length : Int) := by simp
  have p1 := fun m n o c k o2 c2 => apL_sl (m := m) (sz := 1) (bytes := 1) (n := n) (o := o) (len := ec.length) (c := c) (n2 := k) (o2 := o2) (len2 := O.length) (c2 := c2) (by omega) (by omega)
  have p2 := fun m n cs k => apB_own (E := eU8) (m := m) (l := ec) (n := n) (sz := 1) (cs := cs) (k := k) rfl
  have p3 := u8_cat ec O
  have p4 := rd_allS O
  generalize p ++ y :: r = D at *
  by_cases h0 : ec = []
  · subst h0
    rw [eZ_nil] at *
    rw [List.nil_append]
    by_cases h1 : O = []
    · subst h1
      rw [eZ_nil]
      have a0 := ap_nil0
      cases F with
      | u E' =>
        rcases E' with _ | ⟨c', j', m'⟩
        · rcases R with _ | rr <;> rcases E with _ | ⟨c, j, m⟩ <;> simp -implicitDefEqProofs [fK, Fm.mem] at g3 <;> simp (maxSteps := 400000) -implicitDefEqProofs [L_spec_FeedMany, cutK_eq, hx, hw, e5, g3, a0]
        · obtain ⟨c, j, m, rfl, h⟩ := g1
          rcases R with _ | rr <;> simp -implicitDefEqProofs [fK, Fm.mem] at g3 <;> simp (maxSteps := 400000) -implicitDefEqProofs [L_spec_FeedMany, cutK_eq, hx, hw, e5, g3, a0, h]
      | t c => rcases R with _ | rr <;> rcases E with _ | ⟨cu, j, m⟩ <;> simp -implicitDefEqProofs [fK, Fm.mem] at g3 <;> simp (maxSteps := 400000) -implicitDefEqProofs [L_spec_FeedMany, cutK_eq, hx, hw, e5, g3, a0]
      | n rr' E' =>
        rcases E' with _ | ⟨c', j', m'⟩
        · rcases R with _ | rr <;> rcases E with _ | ⟨c, j, m⟩ <;> simp -implicitDefEqProofs [fK, Fm.mem] at g3 <;> simp (maxSteps := 400000) -implicitDefEqProofs [L_spec_FeedMany, cutK_eq, hx, hw, e5, g3, a0]
        · obtain ⟨c, j, m, rfl, h⟩ := g1
          rcases R with _ | rr <;> simp -implicitDefEqProofs [fK, Fm.mem] at g3 <;> simp (maxSteps := 400000) -implicitDefEqProofs [L_spec_FeedMany, cutK_eq, hx, hw, e5, g3, a0, h]
    · rw [eZ_some h1]
      have a1 := fun m k hk => ap_nil1 m k O hk h1 (by omega)
      cases F with
      | u E' =>
        rcases E' with _ | ⟨c', j', m'⟩
        · rcases R with _ | rr <;> rcases E with _ | ⟨c, j, m⟩ <;> simp -implicitDefEqProofs [fK, Fm.mem] at g3 <;> simp (maxSteps := 400000) -implicitDefEqProofs [L_spec_FeedMany, cutK_eq, hx, hw, e5, g3, a1]
        · obtain ⟨c, j, m, rfl, h⟩ := g1
          rcases R with _ | rr <;> simp -implicitDefEqProofs [fK, Fm.mem] at g3 <;> simp (maxSteps := 400000) -implicitDefEqProofs [L_spec_FeedMany, cutK_eq, hx, hw, e5, g3, a1, h]
      | t c => rcases R with _ | rr <;> rcases E with _ | ⟨cu, j, m⟩ <;> simp -implicitDefEqProofs [fK, Fm.mem] at g3 <;> simp (maxSteps := 400000) -implicitDefEqProofs [L_spec_FeedMany, cutK_eq, hx, hw, e5, g3, a1]
      | n rr' E' =>
        rcases E' with _ | ⟨c', j', m'⟩
        · rcases R with _ | rr <;> rcases E with _ | ⟨c, j, m⟩ <;> simp -implicitDefEqProofs [fK, Fm.mem] at g3 <;> simp (maxSteps := 400000) -implicitDefEqProofs [L_spec_FeedMany, cutK_eq, hx, hw, e5, g3, a1]
        · obtain ⟨c, j, m, rfl, h⟩ := g1
          rcases R with _ | rr <;> simp -implicitDefEqProofs [fK, Fm.mem] at g3 <;> simp (maxSteps := 400000) -implicitDefEqProofs [L_spec_FeedMany, cutK_eq, hx, hw, e5, g3, a1, h]
  · rw [eZ_some h0] at *
    rw [eZ_some (by simp [h0])]
    cases F with
    | u E' =>
      rcases E' with _ | ⟨c', j', m'⟩
      · rcases R with _ | rr <;> rcases E with _ | ⟨c, j, m⟩ <;> simp -implicitDefEqProofs [fK, Fm.mem] at g3 <;> simp (maxSteps := 400000) -implicitDefEqProofs [L_spec_FeedMany, cutK_eq, hx, hw, e5, g3, p1, p2, p3, p4]
      · obtain ⟨c, j, m, rfl, h⟩ := g1
        rcases R with _ | rr <;> simp -implicitDefEqProofs [fK, Fm.mem] at g3 <;> simp (maxSteps := 400000) -implicitDefEqProofs [L_spec_FeedMany, cutK_eq, hx, hw, e5, g3, p1, p2, p3, p4, h]
    | t c => rcases R with _ | rr <;> rcases E with _ | ⟨cu, j, m⟩ <;> simp -implicitDefEqProofs [fK, Fm.mem] at g3 <;> simp (maxSteps := 400000) -implicitDefEqProofs [L_spec_FeedMany, cutK_eq, hx, hw, e5, g3, p1, p2, p3, p4]
    | n rr' E' =>
      rcases E' with _ | ⟨c', j', m'⟩
      · rcases R with _ | rr <;> rcases E with _ | ⟨c, j, m⟩ <;> simp -implicitDefEqProofs [fK, Fm.mem] at g3 <;> simp (maxSteps := 400000) -implicitDefEqProofs [L_spec_FeedMany, cutK_eq, hx, hw, e5, g3, p1, p2, p3, p4]
      · obtain ⟨c, j, m, rfl, h⟩ := g1
        rcases R with _ | rr <;> simp -implicitDefEqProofs [fK, Fm.mem] at g3 <;> simp (maxSteps := 400000) -implicitDefEqProofs [L_spec_FeedMany, cutK_eq, hx, hw, e5, g3, p1, p2, p3, p4, h]
end Go.Ab
namespace Go.Ab
set_option maxHeartbeats 8000000
abbrev fmS (w : WayT) (l : LnT) (d : List Int) : List Value := [wayV w, lnV l, frS eU8 d]
theorem s_spec_FM_bad (w : WayT) (l : LnT) (d : List Int) (hl : l.small) (hf : askF w l ≠ 0) : X_spec_FeedMany (fmS w l d) [] = some (lrB (askF w l), []) := by
  have c1 := s_spec_l11Asked w l hl [] []
  have e : (if wayF w = 0 then lineF l else wayF w) = askF w l := rfl
  rw [e] at c1
  simp (maxSteps := 400000) -implicitDefEqProofs [X_spec_FeedMany, retK_eq, c1, hf]
theorem s_spec_FM_2 (w : WayT) (l : LnT) (d : List Int) (hl : l.small) (hf : askF w l = 0) (hd : 200 < d.length) : X_spec_FeedMany (fmS w l d) [] = some (lrB 2, []) := by
  have c1 := s_spec_l11Asked w l hl [] []
  have e : (if wayF w = 0 then lineF l else wayF w) = askF w l := rfl
  rw [e] at c1
  have h3 : (200 : Int) < (d.length : Int) := by omega
  simp (maxSteps := 400000) -implicitDefEqProofs [X_spec_FeedMany, retK_eq, c1, hf, h3]
abbrev spV (z : Zt) (R : Option (List (List Int))) (E : EdT) (t : Bool) (n : Int) : Value := lrV 0 false nilW (hV 0 z) (rV (hB z).length R) (eV ((hB z).length + (rB R).length) E) t n
abbrev spM (z : Zt) (R : Option (List (List Int))) (E : EdT) : Mem := hB z ++ (rB R ++ eB' E)
theorem l_FM (w : WayT) (r : List Int) : ∀ (p : List Int) (q : Nat) (ec : List Int) (R : Option (List (List Int))) (E : EdT) (t : Bool) (n : Int), r.length < q → (p ++ r).length < 1000000 → bOk r → lnOk (lnO R E t n) → wfE E → ec.length + 600 * r.length + 1000 < 1000000000 → ∃ R2 E2, oR R2 = (fedS w (lnO R E t n) r).1.rows ∧ oE E2 = (fedS w (lnO R E t n) r).1.cur ∧ L_spec_FeedMany 0 q 0 [frS eU8 (p ++ r), ptr 0, ptr 1, ptr 2, .int .i64 p.length] (fB w (eZ ec) R E t n) = some (spV (eZ (ec ++ (fedS w (lnO R E t n) r).2)) R2 E2 (fedS w (lnO R E t n) r).1.t (fedS w (lnO R E t n) r).1.n, spM (eZ (ec ++ (fedS w (lnO R E t n) r).2)) R2 E2) := by
  induction r with
  | nil =>
    intro p q ec R E t n hq hl hb hok hE he
    obtain ⟨q, rfl⟩ : ∃ n, q = n + 1 := ⟨q - 1, by omega⟩
    refine ⟨R, E, rfl, rfl, ?_⟩
    simp only [fedS, List.append_nil]
    by_cases h0 : ec = []
    · rw [h0, eZ_nil]
      rcases R with _ | rr <;> rcases E with _ | ⟨c, j, m⟩ <;> simp (maxSteps := 400000) -implicitDefEqProofs [L_spec_FeedMany, retK_eq]
    · rw [eZ_some h0]
      rcases R with _ | rr <;> rcases E with _ | ⟨c, j, m⟩ <;> simp (maxSteps := 400000) -implicitDefEqProofs [L_spec_FeedMany, retK_eq]
  | cons y r ih =>
    intro p q ec R E t n hq hl hb hok hE he
    obtain ⟨q, rfl⟩ : ∃ n, q = n + 1 := ⟨q - 1, by omega⟩
    have hy := hb y (by simp)
    simp only [List.length_cons] at he hq
    obtain ⟨R2, E2, q1, q2, hE2, hs⟩ := l_FM_step w ec R E t n p y r q hok hE hy.1 hy.2 hl (by omega)
    have hok2 := feedS_ok w hok hy.1 hy.2
    have hO := feedS_len w y hok
    rw [fedS]
    generalize feedS w (lnO R E t n) y = S at *
    obtain ⟨⟨Sr, Sc, St, Sn⟩, O⟩ := S
    simp only at q1 q2 hs hok2 hO ⊢
    subst q1 q2
    obtain ⟨R3, E3, r1, r2, h⟩ := ih (p ++ [y]) q (ec ++ O) R2 E2 St Sn (by omega) (by simpa using hl) (fun x hx => hb x (by simp [hx])) hok2 hE2 (by simp; omega)
    have e1 : p ++ [y] ++ r = p ++ y :: r := by simp
    have e2 : ((p ++ [y]).length : Int) = p.length + 1 := by simp
    rw [e1, e2] at h
    rw [hs]
    rw [List.append_assoc] at h
    exact ⟨R3, E3, r1, r2, h⟩
theorem s_spec_FM (w : WayT) (l : LnT) (d : List Int) (hl : l.small) (hf : askF w l = 0) (hby : (∀ x ∈ l.rows, bOk x) ∧ bOk l.cur) (hok : lnOk l) (hd : d.length ≤ 200) (hdb : bOk d) : ∃ R2 E2, oR R2 = (fedS w l d).1.rows ∧ oE E2 = (fedS w l d).1.cur ∧ X_spec_FeedMany (fmS w l d) [] = some (spV (eZ (fedS w l d).2) R2 E2 (fedS w l d).1.t (fedS w l d).1.n, spM (eZ (fedS w l d).2) R2 E2) := by
  have c1 := s_spec_l11Asked w l hl [] []
  have e : (if wayF w = 0 then lineF l else wayF w) = askF w l := rfl
  rw [e] at c1
  obtain ⟨h40, hsz⟩ := line_small40 hf
  have c2 := s_spec_l11Copy l (by omega) hl.2.1 hl.2.2
  have hc40 : l.cur.length ≤ 40 := by unfold LnT.size at hsz; omega
  have hR := oR_rowR l.rows
  have hln : lnO (rowR l.rows) (some (l.cur, [], l.cur.length)) l.t l.n = l := by
    show LnT.mk (oR (rowR l.rows)) l.cur l.t l.n = l
    rw [hR]
  obtain ⟨R2, E2, q1, q2, h⟩ := l_FM w d [] QQ [] (rowR l.rows) (some (l.cur, [], l.cur.length)) l.t l.n (by unfold QQ; omega) (by simp; omega) hdb (by rw [hln]; exact hok) ⟨Nat.le_refl _, by omega⟩ (by simp; omega)
  rw [hln, eZ_nil, List.nil_append, List.nil_append] at h
  rw [hln] at q1 q2
  refine ⟨R2, E2, q1, q2, ?_⟩
  rw [← h]
  have h3 : ¬ (200 : Int) < (d.length : Int) := by omega
  clear h q1 q2 hln hR
  obtain ⟨rows, cur, t, m⟩ := l
  simp only at *
  by_cases hr : rows = []
  · subst hr
    simp only [rowR, if_true] at *
    simp (maxSteps := 400000) -implicitDefEqProofs [X_spec_FeedMany, cutK_eq, c1, hf, c2, h3]
  · simp only [rowR, hr, if_false] at *
    simp (maxSteps := 400000) -implicitDefEqProofs [X_spec_FeedMany, cutK_eq, c1, hf, c2, h3]
theorem fz_spM (ec : List Int) (R : Option (List (List Int))) (E : EdT) (t : Bool) (n : Int) : fz 64 (spM (eZ ec) R E) (spV (eZ ec) R E t n) = some (lrF 0 false [] ec ⟨oR R, oE E, t, n⟩) := by
  have f1 : fz 63 (spM (eZ ec) R E) (hV 0 (eZ ec)) = some (frS eU8 ec) := by
    by_cases h : ec = []
    · rw [h, eZ_nil]
      rfl
    · rw [eZ_some h]
      have : (spM (.o ec [] ec.length) R E)[0]? = some (ownB eU8 (ec ++ [])) := rfl
      show fz (60 + 3) _ (slQ 0 0 ec.length ec.length) = _
      rw [fz_slO, this]
      exact hE ec [] 61 _
  have f2 : fz 63 (spM (eZ ec) R E) (rV (hB (eZ ec)).length R) = some (frS eBS (oR R)) := fz_rE 60 _ _ R fun r h => by
    subst h
    rw [List.getElem?_append_right (Nat.le_refl _), Nat.sub_self]
    rfl
  have f3 : fz 63 (spM (eZ ec) R E) (eV ((hB (eZ ec)).length + (rB R).length) E) = some (frS eU8 (oE E)) := fz_eE 60 _ _ E fun cc q nn h => by
    subst h
    rw [List.getElem?_append_right (by omega), Nat.add_sub_cancel_left, List.getElem?_append_right (Nat.le_refl _), Nat.sub_self]
    rfl
  rw [fz_agg]
  simp only [mapO, f1, f2, f3]
  rfl
end Go.Ab
