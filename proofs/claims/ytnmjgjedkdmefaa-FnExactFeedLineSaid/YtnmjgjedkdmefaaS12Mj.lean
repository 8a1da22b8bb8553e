/- What the functions of the program answer, for all arguments that the theorems name as conditions. -/
import Derived.Test.YtnmjgjedkdmefaaS12Mi
import Derived.Test.YtnmjgjedkdmefaaS12Mh
import Derived.Test.YtnmjgjedkdmefaaS12Md
import Derived.Test.YtnmjgjedkdmefaaS12Ma
import Derived.Test.YtnmjgjedkdmefaaS12Mg
import Derived.Test.YtnmjgjedkdmefaaFC
set_option linter.unusedVariables false
set_option linter.unusedSimpArgs false
namespace Go.Ab
set_option maxHeartbeats 8000000
theorem has_lo {m : Mem} {r n c : Nat} {ix ne nh : List Nat} {H E : EdT} {es : List (El Int)} {ev hv : Value} {t : Bool} {k : Int} (hF : Fam eU8 m r 1 ix es) (hh : SlE m hv H nh) (he : SlE m ev E ne) (hn : (nh ++ (r :: (ne ++ ix))).Nodup) (hl : famN es < 4000000) : Has m (lrV 0 false nilW hv (slQ r 0 n c) ev t k) (nh ++ (r :: (ne ++ ix))) (lrV 0 false nilW (eV 0 H) (slQ (eB' H).length 0 n c) (eV ((eB' H).length + 1) E) t k) (eB' H ++ liP (eB' H).length E es) := by
  have hx := hF.len
  have nmr : nmB ⟨famI ix es, 1, true, true⟩ = ix := hF.nmB
  rcases he with ⟨rfl, rfl, rfl⟩ | ⟨l, j, ce, e, rfl, rfl, rfl, he⟩ <;> rcases hh with ⟨rfl, rfl, rfl⟩ | ⟨lh, jh, ch, h, rfl, rfl, rfl, hh⟩
  · have hn : ([r] ++ ix).Nodup := by simpa using hn
    have h1 : reachF 4194304 m [r] [] = some (r :: ix) := by
      rw [reach_one hF.out (by simp) nmr, List.nil_append]
      exact hF.tail eU8 [r] (fun n hn' h => by simp at h; subst h; exact (List.nodup_cons.1 hn).1 hn') (by omega)
    have lo : locB (r :: ix) ⟨famI ix es, 1, true, true⟩ = some (famB 1 1 es) := hF.locO eU8 (pre := [r]) hn
    have h2' : locM m (r :: ix) (r :: ix) = some (famB 1 1 es :: famM eU8 es) := by
      rw [loc_one hF.out lo, hF.locI]
      rfl
    exact has_of h1 h2' (by simp)
  · have hn : ([h, r] ++ ix).Nodup := by simpa using hn
    have h1 : reachF 4194304 m [h, r] [] = some (h :: r :: ix) := by
      rw [reach_one hh (by simp) (nmB_own eU8 _), List.append_nil, reach_one hF.out (by intro q; simp at q; subst q; simp at hn) nmr, List.nil_append]
      exact hF.tail eU8 [h, r] (fun n hn' q => by
        rw [List.nodup_append] at hn
        exact hn.2.2 n q n hn' rfl) (by omega)
    have lo : locB (h :: r :: ix) ⟨famI ix es, 1, true, true⟩ = some (famB 2 1 es) := hF.locO eU8 (pre := [h, r]) hn
    have h2' : locM m (h :: r :: ix) (h :: r :: ix) = some (ownB eU8 (lh ++ jh) :: famB 2 1 es :: famM eU8 es) := by
      rw [loc_one hh (locB_own eU8 _ _), loc_one hF.out lo, hF.locI]
      rfl
    have hne : ¬ h = r := by intro q; subst q; simp at hn
    exact has_of h1 h2' (by simp [hne])
  · have hn : ([r, e] ++ ix).Nodup := by simpa using hn
    have h1 : reachF 4194304 m [r, e] [] = some (r :: e :: ix) := by
      rw [reach_one hF.out (by simp) nmr, List.cons_append, List.nil_append, reach_one he (by intro q; simp at q; subst q; simp at hn) (nmB_own eU8 _), List.append_nil]
      exact hF.tail eU8 [r, e] (fun n hn' q => by
        rw [List.nodup_append] at hn
        exact hn.2.2 n q n hn' rfl) (by omega)
    have lo : locB (r :: e :: ix) ⟨famI ix es, 1, true, true⟩ = some (famB 2 1 es) := hF.locO eU8 (pre := [r, e]) hn
    have h2' : locM m (r :: e :: ix) (r :: e :: ix) = some (famB 2 1 es :: ownB eU8 (l ++ j) :: famM eU8 es) := by
      rw [loc_one hF.out lo, loc_one he (locB_own eU8 _ _), hF.locI]
      rfl
    have hne : ¬ r = e := by intro q; subst q; simp at hn
    exact has_of h1 h2' (by simp [hne])
  · have hn : ([h, r, e] ++ ix).Nodup := by simpa using hn
    have q1 : ¬ h = r := by intro q; subst q; simp at hn
    have q2 : ¬ h = e := by intro q; subst q; simp at hn
    have q3 : ¬ r = e := by intro q; subst q; simp at hn
    have h1 : reachF 4194304 m [h, r, e] [] = some (h :: r :: e :: ix) := by
      rw [reach_one hh (by simp) (nmB_own eU8 _), List.append_nil, reach_one hF.out (by simpa using fun q => q1 q.symm) nmr, List.cons_append, List.nil_append, reach_one he (by simpa using ⟨fun q => q2 q.symm, fun q => q3 q.symm⟩) (nmB_own eU8 _), List.append_nil]
      exact hF.tail eU8 [h, r, e] (fun n hn' q => by
        rw [List.nodup_append] at hn
        exact hn.2.2 n q n hn' rfl) (by omega)
    have lo : locB (h :: r :: e :: ix) ⟨famI ix es, 1, true, true⟩ = some (famB 3 1 es) := hF.locO eU8 (pre := [h, r, e]) hn
    have h2' : locM m (h :: r :: e :: ix) (h :: r :: e :: ix) = some (ownB eU8 (lh ++ jh) :: famB 3 1 es :: ownB eU8 (l ++ j) :: famM eU8 es) := by
      rw [loc_one hh (locB_own eU8 _ _), loc_one hF.out lo, loc_one he (locB_own eU8 _ _), hF.locI]
      rfl
    exact has_of h1 h2' (by simp [q1, q2, q3])
theorem loM_ln (H E : EdT) (ps : List EdT) (Q : Mem) : loM H E ps ++ Q = eB' H ++ (liP (eB' H).length E (ps.map elP) ++ Q) := by
  rw [← List.append_assoc]
theorem loM_len (H E : EdT) (ps : List EdT) : (loM H E ps).length = (eB' H).length + (1 + (eB' E).length + famN (ps.map elP)) := by
  show (eB' H ++ liP (eB' H).length E (ps.map elP)).length = _
  rw [List.length_append, liP_len]
theorem can_lo (H E : EdT) (ps : List EdT) (c : Nat) (t : Bool) (n : Int) (hp : ps.length < 1000000) : Can (loV H E ps c t n) (loM H E ps) := by
  have hN := famN_P ps
  obtain ⟨hF, hS⟩ := row_ln (eB' H) [] E (ps.map elP) (ok_P ps)
  have hh : SlE (eB' H ++ (liP (eB' H).length E (ps.map elP) ++ [])) (eV 0 H) H (List.range' 0 (eB' H).length) := by
    rcases H with _ | ⟨l, j, ce⟩
    · exact .inl ⟨rfl, rfl, rfl⟩
    · exact .inr ⟨l, j, ce, 0, rfl, rfl, rfl, rfl⟩
  have er : List.range' 0 (eB' H).length ++ ((eB' H).length :: (List.range' ((eB' H).length + 1) (eB' E).length ++ List.range' ((eB' H).length + 1 + (eB' E).length) (famN (ps.map elP)))) = List.range (loM H E ps).length := by
    rw [rng_ln, loM_len, List.range_eq_range']
    have := List.range'_append_1 (s := 0) (m := (eB' H).length) (n := 1 + (eB' E).length + famN (ps.map elP))
    rw [Nat.zero_add] at this
    exact this
  have h := has_lo (n := ps.length) (c := c) (t := t) (k := n) hF hh hS (by rw [er]; exact List.nodup_range) (by omega)
  rw [er] at h
  rw [List.append_nil] at h
  exact h
theorem elP_okH (E : EdT) : (elP E).okH := by rcases E with _ | ⟨l, j, c⟩ <;> exact ⟨rfl, rfl⟩
theorem okH_P (ps : List EdT) : ∀ e ∈ ps.map elP, e.okH := by
  intro e he
  obtain ⟨x, _, rfl⟩ := List.mem_map.1 he
  exact elP_okH x
theorem hd_lo (H E : EdT) (ps : List EdT) : HdM (loM H E ps) := by
  intro N
  refine mapB_mk fun i b hb => ?_
  have hm := List.mem_of_getElem? hb
  have hlen := loM_len H E ps
  rcases List.mem_append.1 hm with hm | hm
  · obtain ⟨l, rfl⟩ := eB_own H b hm
    exact ⟨_, shB_own eU8 eU8_hard _ _ l⟩
  · rcases List.mem_cons.1 hm with rfl | hm
    · have hr := fam_rnH eU8 (j := 7) (π := sft N (loM H E ps).length) (ps.map elP) ((eB' H).length + 1 + (eB' E).length) (N + ((eB' H).length + 1 + (eB' E).length)) (ok_P ps) (okH_P ps) (fun i hi => by unfold sft; rw [if_pos (by omega)]; congr 1; omega)
      unfold shB famB
      rw [if_pos ⟨rfl, rfl⟩]
      split
      · exact ⟨_, rfl⟩
      · exact ⟨_, by rw [hr]; rfl⟩
    · obtain ⟨j, hj, rfl⟩ := List.getElem_of_mem hm
      obtain ⟨x, e⟩ := own_allP E (ps.map elP) j hj
      rw [List.getElem?_eq_getElem hj] at e
      rw [Option.some.inj e]
      exact ⟨_, shB_own eU8 eU8_hard _ _ x⟩
theorem rn_lo (H E : EdT) (ps : List EdT) (c : Nat) (t : Bool) (n : Int) (N : Nat) : rnV 8 hard (sft N (loM H E ps).length) (loV H E ps c t n) = some (lrV 0 false nilW (eV N H) (slQ (N + (eB' H).length) 0 ps.length c) (eV (N + ((eB' H).length + 1)) E) t n) := by
  rw [loM_len]
  generalize hLL : (eB' H).length + (1 + (eB' E).length + famN (ps.map elP)) = LL
  have h1 : (eB' H).length < LL := by omega
  rcases H with _ | ⟨lh, jh, ch⟩ <;> rcases E with _ | ⟨l, j, ce⟩
  · have h1 : 0 < LL := h1
    simp [h1]
  · have h1 : 0 < LL := h1
    have h2 : 1 < LL := by simp at hLL; omega
    simp [h1, h2]
  · have h0 : 0 < LL := by omega
    have h1 : 1 < LL := h1
    simp [h0, h1]
  · have h0 : 0 < LL := by omega
    have h1 : 1 < LL := h1
    have h2 : 2 < LL := by simp at hLL; omega
    simp [h0, h1, h2]
theorem fz_lo (H E : EdT) (ps : List EdT) (c : Nat) (t : Bool) (n : Int) : fz 64 (loM H E ps) (loV H E ps c t n) = some (lrF 0 false [] (oE H) ⟨ps.map oE, oE E, t, n⟩) := by
  have f1 : fz 63 (loM H E ps) (eV 0 H) = some (frS eU8 (oE H)) := fz_eE 60 _ 0 H fun cc q nn h => by subst h; rfl
  have hj : (loM H E ps)[(eB' H).length]? = some (famB ((eB' H).length + 1 + (eB' E).length) 1 ([] ++ ps.map elP)) := by
    unfold loM
    rw [List.getElem?_append_right (Nat.le_refl _), Nat.sub_self]
    rfl
  have hm : loM H E ps = (eB' H ++ (famB ((eB' H).length + 1 + (eB' E).length) 1 (ps.map elP) :: eB' E)) ++ (famM eU8 (ps.map elP) ++ []) := by
    rw [List.append_nil, List.append_assoc]
    rfl
  have hP : (eB' H ++ (famB ((eB' H).length + 1 + (eB' E).length) 1 (ps.map elP) :: eB' E)).length = (eB' H).length + 1 + (eB' E).length + famN ([] : List (El Int)) := by
    rw [List.length_append, List.length_cons, famN]
    omega
  have f2 : fz 63 (loM H E ps) (slQ (eB' H).length 0 ps.length c) = some (frS eBS (ps.map oE)) := by
    have := fz_partF (k := 60) (c := c) (L := []) (R := ps.map elP) hj hm hP (ok_P ps) (by simp) (fun e he => by obtain ⟨x, _, rfl⟩ := List.mem_map.1 he; exact elP_sz x)
    rw [List.length_map, fro_P] at this
    refine this.trans ?_
    unfold frS
    rw [List.length_map]
  have f3 : fz 63 (loM H E ps) (eV ((eB' H).length + 1) E) = some (frS eU8 (oE E)) := fz_eE 60 _ _ E fun cc q nn h => by
    subst h
    unfold loM
    rw [List.getElem?_append_right (by omega), Nat.add_sub_cancel_left]
    rfl
  rw [fz_agg]
  simp only [mapO, f1, f2, f3]
  rfl
theorem s_markLineResultP (H E : EdT) (ps : List EdT) (c : Nat) (tt : Bool) (n : Int) (hh : (oE H).length < 1000000000) (hl : ps.length < 1000000) (hb : ∀ x ∈ ps, (oE x).length < 1000000000) (hc : (oE E).length < 1000000000) (h1 : upSS (1 + (oE H).length) (ps.map oE) ≤ 10000000000) : X_laws_markLineResult [loV H E ps c tt n, .int .i64 1] (loM H E ps) = some (.int .i64 (upSS (1 + (oE H).length) (ps.map oE) + (oE E).length), loM (mkE 1 H) (mkE (upSS (1 + (oE H).length) (ps.map oE)) E) (mkP (1 + (oE H).length) ps)) := by
  have hup := upSS_le (1 + (oE H).length) (ps.map oE)
  have hN := famN_P ps
  have hE := eB_le E
  have hH := eB_le H
  have c0 := fun m => rc_nilW m 1
  have c1 : ∀ Q, rcall X_laws_markByteS [eV 0 H, .int .i64 1] (loM H E ps ++ Q) = some (.int .i64 (1 + (oE H).length), loM (mkE 1 H) E ps ++ Q) := fun Q => by
    rcases H with _ | ⟨l, j, ch⟩
    · have hr := rc_nilW (loM none E ps ++ Q) 1
      exact hr
    · have hc' : l.length < 1000000000 := hh
      have := rcall_one (m := loM (some (l, j, ch)) E ps ++ Q) (a := 0) (n := l.length) (c := ch) (l := l ++ j) rfl (rest := [.int .i64 1]) rfl (v := .int .i64 (1 + l.length)) rfl (s_markByteST l j ch 1 hc' (by omega) (by omega))
      exact this
  have c2 : ∀ Q, rcall X_laws_markLine [.agg #[slQ (eB' H).length 0 ps.length c, eV ((eB' H).length + 1) E, .bool tt, .int .i64 n], .int .i64 (1 + (oE H).length)] (loM (mkE 1 H) E ps ++ Q) = some (.int .i64 (upSS (1 + (oE H).length) (ps.map oE) + (oE E).length), loM (mkE 1 H) (mkE (upSS (1 + (oE H).length) (ps.map oE)) E) (mkP (1 + (oE H).length) ps) ++ Q) := fun Q => by
    rw [loM_ln, loM_ln, ← eB_mk 1 H]
    exact rcall_liP (eB' (mkE 1 H)) Q E (mkE (upSS (1 + (oE H).length) (ps.map oE)) E) ps.length c tt n (ps.map elP) ((mkP (1 + (oE H).length) ps).map elP) [.int .i64 (1 + (oE H).length)] (.int .i64 (upSS (1 + (oE H).length) (ps.map oE) + (oE E).length)) rfl rfl (ok_P _) (ok_P _) (famN_mkP _ _) (eB_mk _ _) (by omega) (s_markLineP E ps c tt n (1 + (oE H).length) hl hb hc (by omega) h1)
  generalize upSS (1 + (oE H).length) (ps.map oE) = U at *
  have l0 := loM_len H E ps
  have l1 := loM_len (mkE 1 H) E ps
  have l2 := loM_len (mkE 1 H) (mkE U E) (mkP (1 + (oE H).length) ps)
  rw [eB_mk] at l1
  rw [eB_mk, eB_mk, famN_mkP] at l2
  have ok : OkM (loM (mkE 1 H) (mkE U E) (mkP (1 + (oE H).length) ps)) := by
    intro b hb
    rw [l2]
    rcases List.mem_append.1 hb with hb | hb
    · obtain ⟨x, rfl⟩ := eB_own _ b hb
      exact own_ok eU8 x
    · exact liP_ok (eB' (mkE 1 H)).length _ _ _ (ok_P _) (by rw [eB_mk, eB_mk, famN_mkP]; omega) b hb
  have hn : nms (loM (mkE 1 H) (mkE U E) (mkP (1 + (oE H).length) ps)) = famN (ps.map elP) := by
    have := liP_nms (eB' (mkE 1 H)).length (mkE U E) ((mkP (1 + (oE H).length) ps).map elP) (ok_P _)
    rw [famN_mkP] at this
    show nms (_ ++ liP _ _ _) = _
    rw [nms_app, this, nms_eB]
    omega
  have hret := fun pv Q => ok.retA Q (by omega) (v := .int .i64 (U + (oE E).length)) rfl pv
  rw [l2, ← l0] at hret
  have hbx0 : ∀ b : Blk, (loM H E ps ++ [b])[(loM H E ps).length]? = some b := fun b => by simp
  have hbx1 : ∀ b : Blk, (loM (mkE 1 H) E ps ++ [b])[(loM H E ps).length]? = some b := fun b => by rw [l0, ← l1]; simp
  have hf1 : flat (eV 0 H) = true := by rcases H with _ | ⟨l, j, c⟩ <;> rfl
  have hf2 : flat (eV ((eB' H).length + 1) E) = true := by rcases E with _ | ⟨l, j, c⟩ <;> rfl
  clear l0 l1 l2 ok hn
  generalize loM (mkE 1 H) (mkE U E) (mkP (1 + (oE H).length) ps) = M2 at *
  generalize loM (mkE 1 H) E ps = M1 at *
  generalize loM H E ps = M0 at *
  unfold loV at *
  generalize eV ((eB' H).length + 1) E = EV at *
  generalize eV 0 H = HV at *
  generalize (eB' H).length = K at *
  generalize (oE E).length = OL at *
  generalize (oE H).length = HL at *
  simp (maxSteps := 400000) -implicitDefEqProofs [-rcall_eq, X_laws_markLineResult, c0, c1, c2, hbx0, hbx1, hret, hf1, hf2]
theorem s_heldLineResultE (c : Int) (b : Bool) (o : Nat) (l : LnT) (ho : o < 1000000000) (hl : l.rows.length < 1100000) (hb : ∀ x ∈ l.rows, x.length < 1000000000) (hc : l.cur.length < 1000000000) (h1 : upSS (1 + o) l.rows ≤ 10000000000) : X_laws_heldLineResult [lrF c b [] (markB 1 o) (mkL (1 + o) l), .int .i64 1] [] = some (.int .i64 (upSS (1 + o) l.rows + l.cur.length), []) := by
  have hup := upSS_le (1 + o) l.rows
  have c1 := s_heldByteS 0 1 (by omega) (by omega) (by omega)
  have c2 := s_heldByteS o 1 ho (by omega) (by omega)
  have e : markB (1 : Int) 0 = [] := rfl
  rw [e, Int.natCast_zero, Int.add_zero] at c1
  have c3 := s_heldLine l (1 + o) hl hb hc (by omega) h1
  have g1 : ¬ 1 + (o : Int) < 0 := by omega
  have g2 : ¬ upSS (1 + o) l.rows + (l.cur.length : Int) < 0 := by omega
  simp -implicitDefEqProofs [X_laws_heldLineResult, retK_eq, c1, c2, c3, g1, g2]
end Go.Ab
namespace Go.Ab
set_option maxHeartbeats 8000000
theorem s_toWayR (w : WayT) : X_laws_toWay [wayV w] [] = some (wayV w, []) := by
  simp (maxSteps := 400000) -implicitDefEqProofs [X_laws_toWay, retK_eq]
theorem f_toWay (w : WayT) (m : Mem) : fcall X_laws_toWay [wayV w] m = some (wayV w, m) := by
  have h := s_toWayR w
  simp (maxSteps := 400000) -implicitDefEqProofs [h]
theorem fz_way (w : WayT) (m : Mem) : fz 64 m (wayV w) = some (wayV w) := by simp
theorem fz_lrF (c : Int) (b : Bool) (O : List Int) (L : LnT) (m : Mem) : fz 64 m (lrF c b [] O L) = some (lrF c b [] O L) := by simp
theorem can_mL (l : LnT) (hl : l.rows.length < 1100000) : Can (tlW 0 l) (tlM (mkL 1 l)) := by
  have h := can_tl (mkL 1 l) (by simp only [markSS_len]; exact hl)
  simp only [tlW, markSS_len, markB_len] at h
  exact h
theorem len_mL (l : LnT) : (tlM (mkL 1 l)).length = (tlM l).length := by
  have hN : ∀ r : List (List Int), famN (r.map elS) = r.length := elS_N
  simp [hN, markSS_len]
end Go.Ab
namespace Go.Ab
set_option maxHeartbeats 8000000
@[simp] def Fm.R2 (R : Option (List (List Int))) : Fm → Option (List (List Int))
  | .u _ => R
  | .t _ => R
  | .n r _ => some r
@[simp] def Fm.E2 : Fm → EdT
  | .u E => E
  | .t c => some (c, [], c.length)
  | .n _ E => E
theorem Fm.ln2 (R : Option (List (List Int))) (t : Bool) (n : Int) (F : Fm) : F.ln R t n = ⟨oR (F.R2 R), oE F.E2, t, n⟩ := by cases F <;> rfl
abbrev rowR (l : List (List Int)) : Option (List (List Int)) := if l = [] then none else some l
theorem oR_rowR (l : List (List Int)) : oR (rowR l) = l := by
  unfold rowR
  split
  · rename_i h; rw [h]; rfl
  · rfl
end Go.Ab
namespace Go.Ab
set_option maxHeartbeats 8000000
abbrev flS (w : WayT) (l : LnT) (y : Int) : List Value := [wayV w, lnV l, .int .u8 y]
theorem s_spec_FL_bad (w : WayT) (l : LnT) (y : Int) (hl : l.small) (hf : askF w l ≠ 0) : X_spec_FeedLine (flS w l y) [] = some (lrB (askF w l), []) := by
  have c1 := s_spec_l11Asked w l hl [] []
  have e : (if wayF w = 0 then lineF l else wayF w) = askF w l := rfl
  rw [e] at c1
  simp (maxSteps := 400000) -implicitDefEqProofs [X_spec_FeedLine, retK_eq, c1, hf]
theorem s_spec_FL (w : WayT) (l : LnT) (y : Int) (hl : l.small) (hf : askF w l = 0) (hn0 : -1000 ≤ l.n) (hn1 : l.n ≤ 1000) (y0 : 0 ≤ y) (y1 : y < 256) : ∃ R2 E2, oR R2 = (feedS w l y).1.rows ∧ oE E2 = (feedS w l y).1.cur ∧ X_spec_FeedLine (flS w l y) [] = some (lrV 0 false nilW (slO 0 (feedS w l y).2.length) (rV 1 R2) (eV (1 + (rB R2).length) E2) (feedS w l y).1.t (feedS w l y).1.n, ownB eU8 (feedS w l y).2 :: (rB R2 ++ eB' E2)) := by
  have c1 := s_spec_l11Asked w l hl [] []
  have e : (if wayF w = 0 then lineF l else wayF w) = askF w l := rfl
  rw [e] at c1
  obtain ⟨h40, hsz⟩ := line_small40 hf
  have c2 := s_spec_l11Copy l (by omega) hl.2.1 hl.2.2
  have hc40 : l.cur.length ≤ 40 := by unfold LnT.size at hsz; omega
  have hR := oR_rowR l.rows
  have hX := x_Feed w .n nilW nilW rfl rfl (rowR l.rows) (some (l.cur, [], l.cur.length)) l.t l.n y (by rw [hR]; exact h40) ⟨Nat.le_refl _, by omega⟩ (fun t n => by
    show LnT.small ⟨oR (rowR l.rows), l.cur, t, n⟩
    rw [hR]
    exact hl) hn0 hn1 y0 y1
  have hln : lnO (rowR l.rows) (some (l.cur, [], l.cur.length)) l.t l.n = l := by
    show LnT.mk (oR (rowR l.rows)) l.cur l.t l.n = l
    rw [hR]
  rw [hln] at hX
  obtain ⟨F, t', n', g1, g2, g3, g4⟩ := hX
  rw [Fm.ln2] at g4
  generalize feedS w l y = S at *
  obtain ⟨⟨Sr, Sc, St, Sn⟩, O⟩ := S
  simp only [LnT.mk.injEq] at g4
  obtain ⟨q1, q2, q3, q4⟩ := g4
  subst q3 q4
  refine ⟨F.R2 (rowR l.rows), F.E2, q1, q2, ?_⟩
  clear q1 q2 hln hR
  obtain ⟨rows, cur, t, m⟩ := l
  simp only at *
  by_cases hr : rows = []
  · subst hr
    simp only [rowR, if_true] at *
    cases F with
    | u E' =>
      rcases E' with _ | ⟨c', j', m'⟩
      · simp -implicitDefEqProofs [fK, Fm.mem] at g3
        simp (maxSteps := 400000) -implicitDefEqProofs [X_spec_FeedLine, retK_eq, c1, hf, c2, g3]
      · obtain ⟨c, j, m, h0, h⟩ := g1
        cases h0
        simp -implicitDefEqProofs [fK, Fm.mem] at g3
        simp (maxSteps := 400000) -implicitDefEqProofs [X_spec_FeedLine, retK_eq, c1, hf, c2, g3]
        exact congrArg (ownB eU8) (by simpa using h.symm)
    | t c =>
      simp -implicitDefEqProofs [fK, Fm.mem] at g3
      simp (maxSteps := 400000) -implicitDefEqProofs [X_spec_FeedLine, retK_eq, c1, hf, c2, g3]
    | n r E' =>
      rcases E' with _ | ⟨c', j', m'⟩
      · simp -implicitDefEqProofs [fK, Fm.mem] at g3
        simp (maxSteps := 400000) -implicitDefEqProofs [X_spec_FeedLine, retK_eq, c1, hf, c2, g3]
      · obtain ⟨c, j, m, h0, h⟩ := g1
        cases h0
        simp -implicitDefEqProofs [fK, Fm.mem] at g3
        simp (maxSteps := 400000) -implicitDefEqProofs [X_spec_FeedLine, retK_eq, c1, hf, c2, g3]
        exact congrArg (ownB eU8) (by simpa using h.symm)
  · simp only [rowR, hr, if_false] at *
    cases F with
    | u E' =>
      rcases E' with _ | ⟨c', j', m'⟩
      · simp -implicitDefEqProofs [fK, Fm.mem] at g3
        simp (maxSteps := 400000) -implicitDefEqProofs [X_spec_FeedLine, retK_eq, c1, hf, c2, g3]
      · obtain ⟨c, j, m, h0, h⟩ := g1
        cases h0
        simp -implicitDefEqProofs [fK, Fm.mem] at g3
        simp (maxSteps := 400000) -implicitDefEqProofs [X_spec_FeedLine, retK_eq, c1, hf, c2, g3]
        exact congrArg (ownB eU8) (by simpa using h.symm)
    | t c =>
      simp -implicitDefEqProofs [fK, Fm.mem] at g3
      simp (maxSteps := 400000) -implicitDefEqProofs [X_spec_FeedLine, retK_eq, c1, hf, c2, g3]
    | n r E' =>
      rcases E' with _ | ⟨c', j', m'⟩
      · simp -implicitDefEqProofs [fK, Fm.mem] at g3
        simp (maxSteps := 400000) -implicitDefEqProofs [X_spec_FeedLine, retK_eq, c1, hf, c2, g3]
      · obtain ⟨c, j, m, h0, h⟩ := g1
        cases h0
        simp -implicitDefEqProofs [fK, Fm.mem] at g3
        simp (maxSteps := 400000) -implicitDefEqProofs [X_spec_FeedLine, retK_eq, c1, hf, c2, g3]
        exact congrArg (ownB eU8) (by simpa using h.symm)
theorem fz_spR (O : List Int) (R : Option (List (List Int))) (E : EdT) (t : Bool) (n : Int) : fz 64 (ownB eU8 O :: (rB R ++ eB' E)) (lrV 0 false nilW (slO 0 O.length) (rV 1 R) (eV (1 + (rB R).length) E) t n) = some (lrF 0 false [] O ⟨oR R, oE E, t, n⟩) := by
  have f1 : fz 63 (ownB eU8 O :: (rB R ++ eB' E)) (slO 0 O.length) = some (frS eU8 O) := by simp
  have f2 : fz 63 (ownB eU8 O :: (rB R ++ eB' E)) (rV 1 R) = some (frS eBS (oR R)) := fz_rE 60 _ 1 R fun r h => by subst h; rfl
  have f3 : fz 63 (ownB eU8 O :: (rB R ++ eB' E)) (eV (1 + (rB R).length) E) = some (frS eU8 (oE E)) := fz_eE 60 _ _ E fun cc q nn h => by
    subst h
    rw [Nat.add_comm, List.getElem?_cons_succ, List.getElem?_append_right (Nat.le_refl _), Nat.sub_self]
    rfl
  rw [fz_agg]
  simp only [mapO, f1, f2, f3]
  rfl
end Go.Ab
namespace Go.Ab
set_option maxHeartbeats 8000000
theorem s_impl_first2 (a b : Int) : X_impl_first [frS eI6 [a, b]] [] = some (.int .i64 (if a = 0 then b else a), []) := by
  rw [s_impl_firstV [a, b] (by simp)]
  simp only [firstV]
  by_cases h1 : a = 0 <;> by_cases h2 : b = 0 <;> simp [h1, h2]
@[simp] theorem fz_two6 (k : Nat) (m : Mem) (a b : Int) : fzO (k + 1) m (some ⟨[.int .i64 a, .int .i64 b], 1, true, true⟩) 0 2 = some (frS eI6 [a, b]) := fzO_own eI6 k m [a, b]
abbrev flA (w : WayT) (l : LnT) (y : Int) : List Value := [wayV w, lnV l, .int .u8 y]
theorem s_impl_FL_bad (w : WayT) (l : LnT) (y : Int) (hl : l.small) (hf : askF w l ≠ 0) : X_impl_FeedLine (flA w l y) [] = some (lrB (askF w l), []) := by
  have c1 := s_impl_WayFault w
  have c2 := s_impl_LineFault l hl
  have c3 := s_impl_first2
  have e : (if wayF w = 0 then lineF l else wayF w) = askF w l := rfl
  by_cases h1 : wayF w = 0
  · rw [if_pos h1] at e
    rw [← e] at hf ⊢
    simp (maxSteps := 400000) -implicitDefEqProofs [X_impl_FeedLine, retK_eq, c1, c2, c3, h1, hf]
  · rw [if_neg h1] at e
    rw [← e] at hf ⊢
    simp (maxSteps := 400000) -implicitDefEqProofs [X_impl_FeedLine, retK_eq, c1, c2, c3, h1, hf]
theorem s_impl_FL (w : WayT) (l : LnT) (y : Int) (hf : askF w l = 0) (hb : (∀ x ∈ l.rows, bOk x) ∧ bOk l.cur) (y0 : 0 ≤ y) (y1 : y < 256) : ∃ hE eE ps c, oE hE = (feedS w l y).2 ∧ oE eE = (feedS w l y).1.cur ∧ ps.map oE = (feedS w l y).1.rows ∧ X_impl_FeedLine (flA w l y) [] = some (loV hE eE ps c (feedS w l y).1.t (feedS w l y).1.n, loM hE eE ps) := by
  have hok := lnOk_ask hf hb
  have hsm := lnOk_small hok
  have c1 := s_impl_WayFault w
  have c2 := s_impl_LineFault l hsm
  have c3 := s_impl_first2
  have h1 : wayF w = 0 := by
    by_cases h : wayF w = 0
    · exact h
    · unfold askF at hf; rw [if_neg h] at hf; exact absurd hf h
  have h2 : lineF l = 0 := by unfold askF at hf; rwa [if_pos h1] at hf
  have hc : Closed [wB w, blk (lnT l []), zR8, ownB eI6 [0, 0], ownB eU8 [y]] := by
    refine (Closed.nil).appL (L := [wB w, blk (lnT l []), zR8, ownB eI6 [0, 0], ownB eU8 [y]]) fun b hb _ => ?_
    simp only [List.mem_cons, List.not_mem_nil, or_false] at hb
    rcases hb with rfl | rfl | rfl | rfl | rfl <;> exact .leaf rfl
  have hS : fedS w l [y] = feedS w l y := by simp [fedS]
  have hok2 := feedS_ok w hok y0 y1
  obtain ⟨m', rv, ev, hv, r, ix, ne, nh, ps, c, e, O, fr⟩ := d_fed (m := [wB w, blk (lnT l []), zR8, ownB eI6 [0, 0], ownB eU8 [y]]) w l (slO 4 1) [y] hc hok (bOk_one y0 y1) (by simp) rfl (fun m' h => by
    intro i hi
    simp at hi
    subst hi
    have h4 := h 4 (by simp)
    refine ⟨.pointer (some ⟨4, 0, none⟩), rfl, ?_⟩
    rw [ld1_ptr, h4]
    rfl) (sl_low (by simp) _ _ _)
  rw [hS] at e O
  have h2c : m'[2]? = some zR8 := by rw [fr 2 (by simp)]; rfl
  have O2 := O.set 2 (blk (lrC 0 false nilW hv rv ev (feedS w l y).1.t (feedS w l y).1.n)) (by simp)
  obtain ⟨hE, eE, q1, q2, q3, q4⟩ := O2.ret (by have := hok2.1; omega) (flA w l y)
  refine ⟨hE, eE, ps, c, q1, q2, q3, ?_⟩
  rw [← q4]
  have hev := O.es.val
  have hhv := O.hs.val
  have hrv : rv.cells = #[rv] ∧ flat rv = true := by rw [O.rs.val]; exact ⟨rfl, rfl⟩
  have hset : ∀ x : Blk, (m'.set 2 x)[2]? = some x := fun x => List.getElem?_set_self (List.getElem?_eq_some_iff.1 h2c).1
  have e' : dcall X_impl_fed [wayV w, lnV l, slO 4 1] [wB w, blk (lnT l []), zR8, ⟨[.int .i64 0, .int .i64 0], 1, true, true⟩, ⟨[.int .u8 y], 1, true, true⟩] = some (lrV 0 false nilW hv rv ev (feedS w l y).1.t (feedS w l y).1.n, m') := e
  clear q4 O O2 fr e
  generalize feedS w l y = S at *
  simp (maxSteps := 400000) -implicitDefEqProofs [X_impl_FeedLine, c1, c2, c3, h1, h2, e', h2c, hset, hev.1, hev.2, hhv.1, hhv.2, hrv.1, hrv.2]
end Go.Ab
namespace Go.Ab
set_option maxHeartbeats 40000000
theorem law_core (w : WayT) (l : LnT) (y : Int) (hl : l.rows.length < 1100000) (hb : ∀ x ∈ l.rows, x.length < 1000000000) (hc : l.cur.length < 1000000000) (hsm : l.small) (hup : upSS 1 l.rows ≤ 10000000000) (S0 : X_laws_szLine [lnV l, .int .i64 1048576] [] = some (.int .i64 (szLn l 1048576), [])) (h0 : ¬ szLn l 1048576 < 0) (c : Int) (b t : Bool) (n : Int) (O : List Int) (L : LnT) (v0 : Value) (z1 z2 z3 z4 W' : Value) (w1 w2 w3 w4 : Nat → Value) (MS MI MK : Mem) (qq : Int) (hq : 0 ≤ qq)
    (fI : ∀ k, flat (w1 k) = true ∧ flat (w2 k) = true ∧ flat (w3 k) = true ∧ flat (w4 k) = true)
    (S : X_spec_FeedLine (flA w l y) [] = some (v0, MS)) (fzS : fz 64 MS v0 = some (lrF c b [] O L))
    (I : X_impl_FeedLine (flA w l y) [] = some (lrV c b z1 z2 z3 z4 t n, MI)) (canI : Can (lrV c b z1 z2 z3 z4 t n) MI) (hdI : HdM MI) (rnI : ∀ N, rnV 8 hard (sft N MI.length) (lrV c b z1 z2 z3 z4 t n) = some (lrV c b (w1 N) (w2 N) (w3 N) (w4 N) t n)) (fzI : fz 64 MI (lrV c b z1 z2 z3 z4 t n) = some (lrF c b [] O L))
    (E : X_laws_eqLineResult [lrF c b [] O L, lrF c b [] O L] [] = some (.bool true, []))
    (K : X_laws_markLineResult [lrV c b z1 z2 z3 z4 t n, .int .i64 1] MI = some (.int .i64 qq, MK)) (canK : Can (lrV c b z1 z2 z3 z4 t n) MK) (lenK : MK.length = MI.length) (fzK : fz 64 MK (lrV c b z1 z2 z3 z4 t n) = some W') (HH : X_laws_heldLineResult [W', .int .i64 1] [] = some (.int .i64 qq, [])) : X_laws_FnExactFeedLine [wayV w, lnV l, .int .u8 y] [] = some (.bool true, []) := by
    have hup1 := upSS_le 1 l.rows
    obtain ⟨m1, hm1⟩ : ∃ M, ([blk (wayT w [])] : Mem) = M := ⟨_, rfl⟩
    have l1 : m1.length = 1 := by rw [← hm1]; rfl
    have b1_1 : m1[0]? = some (blk (wayT w [])) := by rw [← hm1]; rfl
    obtain ⟨m2, hm2⟩ : ∃ M, m1 ++ [blk [frS eBS l.rows, frS eU8 l.cur, .bool l.t, .int .i64 l.n]] = M := ⟨_, rfl⟩
    have l2 := box_len hm2
    have g2 := box_grow hm2
    have b1_2 := (g2 0 (by omega)).trans b1_1
    have b2_2 := box_get hm2
    have e3 : fcall X_laws_szLine [lnV l, .int .i64 1048576] m2 = some (.int .i64 (szLn l 1048576), m2) := f_ask (mapO2 (fz_ln l _) (fz_int 63 _ .i64 1048576)) S0 rfl
    have e4 : fcall X_laws_toWay [wayV w] m2 = some (wayV w, m2) := f_toWay w _
    obtain ⟨k5, m5, q5, e5, l5, g5, H5⟩ := n_toLine l hl hb hc m2
    have b1_5 := (g5 0 (by omega)).trans b1_2
    have b2_5 := (g5 m1.length (by omega)).trans b2_2
    obtain ⟨m6, e6, l6, kp6⟩ := n_ask (X := X_spec_FeedLine) (m := m5) (mapO3 (fz_way w _) (H5.fz (fz_tl l)) (fz_int 63 _ .u8 y)) S fzS
    obtain ⟨ob1, b1_6⟩ := kp6 _ _ b1_5
    have b1_6 : m6[0]? = some ⟨(wayT w []), 0, ob1, true⟩ := b1_6
    obtain ⟨ob2, b2_6⟩ := kp6 _ _ b2_5
    have b2_6 : m6[m1.length]? = some ⟨[frS eBS l.rows, frS eU8 l.cur, .bool l.t, .int .i64 l.n], 0, ob2, true⟩ := b2_6
    obtain ⟨m7, hm7⟩ : ∃ M, m6 ++ [blk (lrC c b (frS eU8 []) (frS eU8 O) (frS eBS L.rows) (frS eU8 L.cur) L.t L.n)] = M := ⟨_, rfl⟩
    have l7 := box_len hm7
    have g7 := box_grow hm7
    have b1_7 := (g7 0 (by omega)).trans b1_6
    have b2_7 := (g7 m1.length (by omega)).trans b2_6
    have b7_7 := box_get hm7
    obtain ⟨k8, m8, q8, e8, l8, g8, H8⟩ := n_toLine l hl hb hc m7
    have b1_8 := (g8 0 (by omega)).trans b1_7
    have b2_8 := (g8 m1.length (by omega)).trans b2_7
    have b7_8 := (g8 m6.length (by omega)).trans b7_7
    obtain ⟨m9, hm9⟩ : ∃ M, m8 ++ [blk [slO k8 l.rows.length, slO (k8 + 1) l.cur.length, .bool l.t, .int .i64 l.n]] = M := ⟨_, rfl⟩
    have l9 := box_len hm9
    have g9 := box_grow hm9
    have H8 := H8.grow g9
    have b1_9 := (g9 0 (by omega)).trans b1_8
    have b2_9 := (g9 m1.length (by omega)).trans b2_8
    have b7_9 := (g9 m6.length (by omega)).trans b7_8
    have b9_9 := box_get hm9
    have e10 : fcall X_laws_toWay [wayV w] m9 = some (wayV w, m9) := f_toWay w _
    obtain ⟨k11, m11, q11, e11, l11, g11, H11⟩ := Has.new (X := X_impl_FeedLine) (F := fun k => lrV c b (w1 k) (w2 k) (w3 k) (w4 k) t n) (m := m9) (mapO3 (fz_way w _) (H8.fz (fz_tl l)) (fz_int 63 _ .u8 y)) I canI hdI rnI
    have H8 := H8.grow g11
    have b1_11 := (g11 0 (by omega)).trans b1_9
    have b2_11 := (g11 m1.length (by omega)).trans b2_9
    have b7_11 := (g11 m6.length (by omega)).trans b7_9
    have b9_11 := (g11 m8.length (by omega)).trans b9_9
    obtain ⟨m12, hm12⟩ : ∃ M, m11 ++ [blk (lrC c b (w1 k11) (w2 k11) (w3 k11) (w4 k11) t n)] = M := ⟨_, rfl⟩
    have l12 := box_len hm12
    have g12 := box_grow hm12
    have H8 := H8.grow g12
    have H11 := H11.grow g12
    have b1_12 := (g12 0 (by omega)).trans b1_11
    have b2_12 := (g12 m1.length (by omega)).trans b2_11
    have b7_12 := (g12 m6.length (by omega)).trans b7_11
    have b9_12 := (g12 m8.length (by omega)).trans b9_11
    have b12_12 := box_get hm12
    have e13 : fcall X_laws_eqLineResult [lrV c b (w1 k11) (w2 k11) (w3 k11) (w4 k11) t n, lrF c b [] O L] m12 = some (.bool true, m12) := f_ask (mapO2 (H11.fz fzI) (fz_lrF c b O L _)) E rfl
    obtain ⟨k14, m14, q14, e14, l14, g14, H14⟩ := n_toLine l hl hb hc m12
    have H8 := H8.grow g14
    have H11 := H11.grow g14
    have b1_14 := (g14 0 (by omega)).trans b1_12
    have b2_14 := (g14 m1.length (by omega)).trans b2_12
    have b7_14 := (g14 m6.length (by omega)).trans b7_12
    have b9_14 := (g14 m8.length (by omega)).trans b9_12
    have b12_14 := (g14 m11.length (by omega)).trans b12_12
    have e15 : fcall X_laws_eqLine [tlW k8 l, tlW k14 l] m14 = some (.bool true, m14) := f_ask (mapO2 (H8.fz (fz_tl l)) (H14.fz (fz_tl l))) (s_eqLine l hsm) rfl
    obtain ⟨m16, e16, l16, g16, H8⟩ := H8.call (X := X_laws_markLine) (rest := [.int .i64 1]) (s_markLineS l hl hb hc hup) rfl rfl (can_mL l hl) (len_mL l)
    have H11 := H11.apart g16 (by omega)
    have b1_16 := (out_range g16 (n := 0) (by omega)).trans b1_14
    have b2_16 := (out_range g16 (n := m1.length) (by omega)).trans b2_14
    have b7_16 := (out_range g16 (n := m6.length) (by omega)).trans b7_14
    have b12_16 := (out_range g16 (n := m11.length) (by omega)).trans b12_14
    have e17 : fcall X_laws_eqLineResult [lrV c b (w1 k11) (w2 k11) (w3 k11) (w4 k11) t n, lrF c b [] O L] m16 = some (.bool true, m16) := f_ask (mapO2 (H11.fz fzI) (fz_lrF c b O L _)) E rfl
    obtain ⟨m18, e18, l18, g18, H11⟩ := H11.call (X := X_laws_markLineResult) (rest := [.int .i64 1]) K rfl rfl canK lenK
    have b1_18 := (out_range g18 (n := 0) (by omega)).trans b1_16
    have b2_18 := (out_range g18 (n := m1.length) (by omega)).trans b2_16
    have b7_18 := (out_range g18 (n := m6.length) (by omega)).trans b7_16
    have b12_18 := (out_range g18 (n := m11.length) (by omega)).trans b12_16
    have e19 : fcall X_laws_heldLineResult [lrV c b (w1 k11) (w2 k11) (w3 k11) (w4 k11) t n, .int .i64 1] m18 = some (.int .i64 qq, m18) := f_ask (mapO2 (H11.fz fzK) (fz_int 63 _ .i64 1)) HH rfl
    have e20 : fcall X_laws_toWay [wayV w] m18 = some (wayV w, m18) := f_toWay w _
    obtain ⟨k21, m21, q21, e21, l21, g21, H21⟩ := n_toLine l hl hb hc m18
    have H11 := H11.grow g21
    have b7_21 := (g21 m6.length (by omega)).trans b7_18
    have b12_21 := (g21 m11.length (by omega)).trans b12_18
    obtain ⟨k22, m22, q22, e22, l22, g22, H22⟩ := Has.new (X := X_impl_FeedLine) (F := fun k => lrV c b (w1 k) (w2 k) (w3 k) (w4 k) t n) (m := m21) (mapO3 (fz_way w _) (H21.fz (fz_tl l)) (fz_int 63 _ .u8 y)) I canI hdI rnI
    have H11 := H11.grow g22
    have b7_22 := (g22 m6.length (by omega)).trans b7_21
    have b12_22 := (g22 m11.length (by omega)).trans b12_21
    obtain ⟨m23, hm23⟩ : ∃ M, m22 ++ [blk (lrC c b (w1 k22) (w2 k22) (w3 k22) (w4 k22) t n)] = M := ⟨_, rfl⟩
    have l23 := box_len hm23
    have g23 := box_grow hm23
    have H11 := H11.grow g23
    have H22 := H22.grow g23
    have b7_23 := (g23 m6.length (by omega)).trans b7_22
    have b12_23 := (g23 m11.length (by omega)).trans b12_22
    have b23_23 := box_get hm23
    have e24 : fcall X_laws_eqLineResult [lrV c b (w1 k22) (w2 k22) (w3 k22) (w4 k22) t n, lrF c b [] O L] m23 = some (.bool true, m23) := f_ask (mapO2 (H22.fz fzI) (fz_lrF c b O L _)) E rfl
    have e25 : fcall X_laws_heldLineResult [lrV c b (w1 k11) (w2 k11) (w3 k11) (w4 k11) t n, .int .i64 1] m23 = some (.int .i64 qq, m23) := f_ask (mapO2 (H11.fz fzK) (fz_int 63 _ .i64 1)) HH rfl
    have u1 : ¬ upSS 1 l.rows + (l.cur.length : Int) < 0 := by omega
    have u2 : ¬ qq < 0 := by omega
    have fI1 := fun k => (fI k).1
    have fI2 := fun k => (fI k).2.1
    have fI3 := fun k => (fI k).2.2.1
    have fI4 := fun k => (fI k).2.2.2
    simp (maxSteps := 2000000) -implicitDefEqProofs [-fcall_eq, -rcall_eq, X_laws_FnExactFeedLine, retK_eq, hm1, hm2, b2_2, e3, b1_2, e4, e5, e6, hm7, b2_7, e8, hm9, b1_9, e10, b9_9, e11, hm12, b12_12, b7_12, e13, b9_12, b2_12, e14, e15, b9_14, e16, b12_16, b7_16, e17, e18, b12_18, e19, b1_18, e20, b2_18, e21, e22, hm23, b23_23, b7_23, e24, b12_23, e25, h0, u1, u2, fI1, fI2, fI3, fI4]
end Go.Ab
namespace Go.Ab
set_option maxHeartbeats 8000000
theorem sumL_mem : ∀ (l : List (List Int)) x, x ∈ l → x.length ≤ sumL l
  | [], x, h => by cases h
  | y :: r, x, h => by
    rw [sumL]
    rcases List.mem_cons.1 h with rfl | h
    · omega
    · have := sumL_mem r x h
      omega
theorem upSS_sum (l : List (List Int)) : ∀ t : Int, upSS t l = t + sumL l := by
  induction l with
  | nil => intro t; simp [upSS, sumL]
  | cons x r ih => intro t; rw [upSS, ih, sumL]; push_cast; omega
structure LoR (w : WayT) (O : List Int) (L : LnT) (z2 z3 z4 W' : Value) (w2 w3 w4 : Nat → Value) (MI MK : Mem) (qq : Int) : Prop where
  hq : 0 ≤ qq
  fI : ∀ k, flat nilW = true ∧ flat (w2 k) = true ∧ flat (w3 k) = true ∧ flat (w4 k) = true
  can : Can (lrV 0 false nilW z2 z3 z4 L.t L.n) MI
  hd : HdM MI
  rn : ∀ N, rnV 8 hard (sft N MI.length) (lrV 0 false nilW z2 z3 z4 L.t L.n) = some (lrV 0 false nilW (w2 N) (w3 N) (w4 N) L.t L.n)
  fz : fz 64 MI (lrV 0 false nilW z2 z3 z4 L.t L.n) = some (lrF 0 false [] O L)
  eq : X_laws_eqLineResult [lrF 0 false [] O L, lrF 0 false [] O L] [] = some (.bool true, [])
  mrk : X_laws_markLineResult [lrV 0 false nilW z2 z3 z4 L.t L.n, .int .i64 1] MI = some (.int .i64 qq, MK)
  canK : Can (lrV 0 false nilW z2 z3 z4 L.t L.n) MK
  lenK : MK.length = MI.length
  fzK : Ab.fz 64 MK (lrV 0 false nilW z2 z3 z4 L.t L.n) = some W'
  held : X_laws_heldLineResult [W', .int .i64 1] [] = some (.int .i64 qq, [])
theorem lo_R (w : WayT) (H E : EdT) (ps : List EdT) (c : Nat) (t : Bool) (n : Int) (hO : (oE H).length < 1000000) (hok : lnOk ⟨ps.map oE, oE E, t, n⟩) : LoR w (oE H) ⟨ps.map oE, oE E, t, n⟩ (eV 0 H) (slQ (eB' H).length 0 ps.length c) (eV ((eB' H).length + 1) E) (lrF 0 false [] (markB 1 (oE H).length) (mkL (1 + (oE H).length) ⟨ps.map oE, oE E, t, n⟩)) (fun k => eV k H) (fun k => slQ (k + (eB' H).length) 0 ps.length c) (fun k => eV (k + ((eB' H).length + 1)) E) (loM H E ps) (loM (mkE 1 H) (mkE (upSS (1 + (oE H).length) (ps.map oE)) E) (mkP (1 + (oE H).length) ps)) (upSS (1 + (oE H).length) (ps.map oE) + (oE E).length) := by
  have hsm := lnOk_small hok
  have h40 : (ps.map oE).length ≤ 40 := hok.1
  rw [List.length_map] at h40
  have hsz : LnT.size ⟨ps.map oE, oE E, t, n⟩ ≤ 40 := hok.2.1
  unfold LnT.size at hsz
  simp only at hsz
  have hu := upSS_sum (ps.map oE) (1 + (oE H).length)
  have hup := upSS_le (1 + (oE H).length) (ps.map oE)
  have hb : ∀ x ∈ ps, (oE x).length < 1000000000 := fun x hx => by
    have := sumL_mem (ps.map oE) (oE x) (List.mem_map.2 ⟨x, hx, rfl⟩)
    omega
  have hf : ∀ (k : Nat) (E : EdT), flat (eV k E) = true := fun k E => by rcases E with _ | ⟨l, j, c⟩ <;> rfl
  refine ⟨by omega, fun k => ⟨rfl, hf _ _, rfl, hf _ _⟩, can_lo H E ps c t n (by omega), hd_lo H E ps, fun N => rn_lo H E ps c t n N, fz_lo H E ps c t n, s_eqLineResult 0 false [] (oE H) ⟨ps.map oE, oE E, t, n⟩ (by simp) (by omega) hsm, s_markLineResultP H E ps c t n (by omega) (by omega) hb (by omega) (by omega), ?_, ?_, ?_, s_heldLineResultE 0 false (oE H).length ⟨ps.map oE, oE E, t, n⟩ (by omega) (by simp only [List.length_map]; omega) (fun x hx => by have := sumL_mem (ps.map oE) x hx; omega) (by simp only; omega) (by simp only; omega)⟩
  · have := can_lo (mkE 1 H) (mkE (upSS (1 + (oE H).length) (ps.map oE)) E) (mkP (1 + (oE H).length) ps) c t n (by rw [mkP_len]; omega)
    unfold loV at this
    rw [eV_mk, eB_mk, eV_mk, mkP_len] at this
    exact this
  · rw [loM_len, loM_len, eB_mk, eB_mk, famN_mkP]
  · have := fz_lo (mkE 1 H) (mkE (upSS (1 + (oE H).length) (ps.map oE)) E) (mkP (1 + (oE H).length) ps) c t n
    unfold loV at this
    rw [eV_mk, eB_mk, eV_mk, mkP_len, oE_mk, oE_mk, oE_mkP] at this
    exact this
theorem law_bytes {l : LnT} (h : ¬ szLn l 1048576 < 0) : l.rows.length < 1100000 ∧ (∀ x ∈ l.rows, x.length < 1000000000) ∧ l.cur.length < 1000000000 ∧ l.small ∧ upSS 1 l.rows ≤ 10000000000 := by
  have h1 : ¬ szSS l.rows 1048576 < 0 := by
    intro h'
    apply h
    unfold szLn
    rw [if_pos h']
    omega
  have h2 : szLn l 1048576 = szN l.cur.length (szSS l.rows 1048576) := by unfold szLn; rw [if_neg h1]
  obtain ⟨hle, hn, hb, hu⟩ := szSS_small (l := l.rows) (x := 1048576) (by omega) (by omega)
  have hc : l.cur.length < 1000000000 := szN_small (x := szSS l.rows 1048576) hle (by omega)
  have hup := sumL_up l.rows 1
  exact ⟨by omega, hb, hc, ⟨by omega, hb, hc⟩, by omega⟩
end Go.Ab
namespace Go.Ab
open Go.Proofs
set_option maxHeartbeats 8000000
theorem s_FnExactFeedLine (w : WayT) (l : LnT) (y : Int) (hf : l.fit) (hby : (∀ x ∈ l.rows, bOk x) ∧ bOk l.cur) (y0 : 0 ≤ y) (y1 : y < 256) : X_laws_FnExactFeedLine [wayV w, lnV l, .int .u8 y] [] = some (.bool true, []) := by
  have S0 := s_szLine l 1048576 hf (by omega) (by omega)
  by_cases h0 : szLn l 1048576 < 0
  · simp (maxSteps := 2000000) -implicitDefEqProofs [X_laws_FnExactFeedLine, retK_eq, S0, h0]
  obtain ⟨hl, hb, hc, hsm, hup⟩ := law_bytes h0
  by_cases hk : askF w l = 0
  · have hok := lnOk_ask hk hby
    obtain ⟨R2, E2, q1, q2, S⟩ := s_spec_FL w l y hsm hk (by have := hok.2.2.1; omega) (by have := hok.2.2.2.1; omega) y0 y1
    obtain ⟨hE, eE, ps, c, p1, p2, p3, I⟩ := s_impl_FL w l y hk hby y0 y1
    have hok2 := feedS_ok w hok y0 y1
    have hO := feedS_len w y hok
    generalize feedS w l y = SS at *
    obtain ⟨⟨Sr, Sc, St, Sn⟩, O⟩ := SS
    simp only at q1 q2 p1 p2 p3 hO hok2 S I
    subst p1 p2 p3
    have fS := fz_spR (oE hE) R2 E2 St Sn
    rw [q1, q2] at fS
    have R := lo_R w hE eE ps c St Sn (by omega) hok2
    exact law_core w l y hl hb hc hsm hup S0 h0 0 false St Sn (oE hE) ⟨ps.map oE, oE eE, St, Sn⟩ _ _ _ _ _ _ (fun _ => nilW) _ _ _ _ _ _ _ R.hq R.fI S fS I R.can R.hd R.rn R.fz R.eq R.mrk R.canK R.lenK R.fzK R.held
  · exact law_core w l y hl hb hc hsm hup S0 h0 (askF w l) false false 0 [] ⟨[], [], false, 0⟩ (lrB (askF w l)) nilW nilW nilW nilW (lrF (askF w l) false [] [] ⟨[], [], false, 0⟩) (fun _ => nilW) (fun _ => nilW) (fun _ => nilW) (fun _ => nilW) [] [] [] 1 (by omega) (fun _ => ⟨rfl, rfl, rfl, rfl⟩) (s_spec_FL_bad w l y hsm hk) (fz_rb (askF w l)) (s_impl_FL_bad w l y hsm hk) (can_rb (askF w l)) hd_nil (rn_rb (askF w l)) (fz_rb (askF w l)) (s_eqLineResult (askF w l) false [] [] ⟨[], [], false, 0⟩ (by simp) (by simp) ⟨by simp, by simp, by simp⟩) (s_markLineResult_b (askF w l)) (can_rb (askF w l)) rfl (fz_rb (askF w l)) (by
      have := s_heldLineResultE (askF w l) false 0 ⟨[], [], false, 0⟩ (by omega) (by simp) (by simp) (by simp) (by simp [upSS])
      simpa [markB, mkL, upSS, markSS] using this)
end Go.Ab
namespace Go.Ab
open Go.Proofs
set_option maxHeartbeats 8000000
theorem typed_i64 {i : Nat} {a : Value} (h : Typed CT i [a]) (hi : (CT.ty i).d = .int .i64) : ∃ n : Int, a = .int .i64 n ∧ wfI .i64 n := typed_int h hi
end Go.Ab
namespace Go.Ab
open Go.Proofs
set_option maxHeartbeats 4000000
theorem typed_wayL {cs : List Value} (h : Typed CT 23 cs) : ∃ a b c d e f g : Int, cs = [.int .i64 a, .int .i64 b, .int .i64 c, .int .i64 d, .int .i64 e, .int .i64 f, .int .i64 g] := by
  obtain ⟨h1, h2⟩ := typed_struct h rfl
  have h1 : cs.length = 7 := h1
  match cs, h1 with
  | [a0, a1, a2, a3, a4, a5, a6], _ =>
    obtain ⟨x0, rfl, _⟩ := typed_i64 (h2 (0, 2) (by simp)) rfl
    obtain ⟨x1, rfl, _⟩ := typed_i64 (h2 (1, 2) (by simp)) rfl
    obtain ⟨x2, rfl, _⟩ := typed_i64 (h2 (2, 2) (by simp)) rfl
    obtain ⟨x3, rfl, _⟩ := typed_i64 (h2 (3, 2) (by simp)) rfl
    obtain ⟨x4, rfl, _⟩ := typed_i64 (h2 (4, 2) (by simp)) rfl
    obtain ⟨x5, rfl, _⟩ := typed_i64 (h2 (5, 2) (by simp)) rfl
    obtain ⟨x6, rfl, _⟩ := typed_i64 (h2 (6, 2) (by simp)) rfl
    exact ⟨x0, x1, x2, x3, x4, x5, x6, rfl⟩
end Go.Ab
