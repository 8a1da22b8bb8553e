/- What the functions of the program answer, for all arguments that the theorems name as conditions. -/
import Derived.Test.YtkfbpdbopkdnjaaS11Mg
import Derived.Test.YtkfbpdbopkdnjaaS11Me
import Derived.Test.YtkfbpdbopkdnjaaS11Md
import Derived.Test.YtkfbpdbopkdnjaaFC
set_option linter.unusedVariables false
set_option linter.unusedSimpArgs false
namespace Go.Ab
set_option maxHeartbeats 4000000

theorem fs_get (w : WayT) (l : LnT) (NEW : Mem) (i : Nat) (hi : i < NEW.length) : (fsM w l NEW)[4 + i]? = NEW[i]? := by
  rw [show 4 + i = i + 1 + 1 + 1 + 1 by omega]
  simp only [fsM, List.getElem?_cons_succ]
  exact List.getElem?_append_left hi
theorem fs_tail (w : WayT) (l : LnT) (NEW : Mem) : (fsM w l NEW)[NEW.length + 4]? = some (ownB eU8 []) ∧ (fsM w l NEW)[NEW.length + 5]? = some (lbB 4 0 l.rows.length l.rows.length l.cur l.t l.n) := by
  constructor
  · simp only [fsM, List.getElem?_cons_succ]
    rw [List.getElem?_append_right (Nat.le_refl _), Nat.sub_self]; rfl
  · simp only [fsM, List.getElem?_cons_succ]
    rw [List.getElem?_append_right (by omega), Nat.add_sub_cancel_left]; rfl
theorem RL_first (w : WayT) (l : LnT) (n : Nat) (hl : l.small) (hf : askF w l = 0) (hn : inB n 1 99 = true) (hr : l.rows ≠ []) (a' len' c' : Nat) (es' : List (El Int)) (hok' : ∀ e ∈ es', e.ok eU8) (hN : famN es' = famN (l.rows.map elK)) (hM : famM eU8 es' = famM eU8 (l.rows.map elK)) (v v' : Value) (yv : List Int)
    (hv : (v = roS 0 [] ∧ v' = roS 0 []) ∨ ∃ j k cc, j < famN (l.rows.map elK) ∧ v = slQ (2 + (edM l.cur).length + j) 0 k cc ∧ v' = slQ (4 + 1 + (edM l.cur).length + j) 0 k cc)
    (hX : X_impl_Line_next [ptr 0, .int .i64 n] (lbB 1 0 l.rows.length l.rows.length l.cur l.t l.n :: famB (2 + (edM l.cur).length) 1 (l.rows.map elK) :: (edM l.cur ++ famM eU8 (l.rows.map elK))) = some (v, lbB 1 a' len' c' l.cur l.t l.n :: famB (2 + (edM l.cur).length) 1 es' :: (edM l.cur ++ famM eU8 es')))
    (hap : ∀ mm : Mem, mm[(nwM l.cur l.rows).length + 4]? = some (ownB eU8 []) → (∀ i, i < famN (l.rows.map elK) → mm[5 + (edM l.cur).length + i]? = (famM eU8 (l.rows.map elK))[i]?) → apL mm 1 1 (slO ((nwM l.cur l.rows).length + 4) 0) v' = some (slO mm.length yv.length, mm.set ((nwM l.cur l.rows).length + 4) ⟨[], 1, true, false⟩ ++ [ownB eU8 yv])) :
    X_impl_ReadLine (rlA w l n) [] = L_impl_ReadLine 0 QQ 0 [.int .i64 n, ptr 0, ptr 1, ptr 2, slO 3 yv.length] (rlM w l.cur yv l.t l.n a' len' c' es') := by
  have hE := edM_le l.cur
  obtain ⟨h40, _⟩ := line_small40 hf
  have hN2 := famN_K l.rows
  have hlen : (nwM l.cur l.rows).length = 1 + (edM l.cur).length + famN (l.rows.map elK) := by simp; omega
  obtain ⟨t1, t2⟩ := fs_tail w l (nwM l.cur l.rows)
  have hAt : LineAt (fsM w l (nwM l.cur l.rows)) ((nwM l.cur l.rows).length + 5) 4 0 l.rows.length l.rows.length l.cur l.t l.n (l.rows.map elK) := ⟨⟨fun i x h => by
    have hi := (List.getElem?_eq_some_iff.1 h).1
    rw [fs_get w l _ i hi]
    exact h, ok_K _⟩, t2⟩
  have hc := rcall_lineG hAt (.inr (by omega)) a' len' c' n es' hok' hN hM (by omega) v v' hv hX
  rw [s_impl_RL_walk w l n hl hf hn hr]
  show bo _ (rcall X_impl_Line_next [ptr ((nwM l.cur l.rows).length + 5), .int .i64 n] (fsM w l (nwM l.cur l.rows))) = _
  rw [hc, bo_some]
  generalize hMM : ((fsM w l (nwM l.cur l.rows)).set ((nwM l.cur l.rows).length + 5) (lbB 4 a' len' c' l.cur l.t l.n)).set 4 (famB (4 + 1 + (edM l.cur).length) 1 es') = MM
  have hfl : (fsM w l (nwM l.cur l.rows)).length = (nwM l.cur l.rows).length + 6 := by simp; omega
  have get : ∀ i, i ≠ 4 → i ≠ (nwM l.cur l.rows).length + 5 → MM[i]? = (fsM w l (nwM l.cur l.rows))[i]? := fun i q1 q2 => by
    rw [← hMM, List.getElem?_set_ne (by omega), List.getElem?_set_ne (by omega)]
  have hML : MM.length = (nwM l.cur l.rows).length + 6 := by rw [← hMM, List.length_set, List.length_set, hfl]
  have hap := hap MM (by rw [get _ (by omega) (by omega)]; exact t1) (fun i hi => by
    rw [get _ (by omega) (by omega), show 5 + (edM l.cur).length + i = 4 + (1 + (edM l.cur).length + i) by omega, fs_get _ _ _ _ (by omega)]
    show (famB (5 + (edM l.cur).length) 1 (l.rows.map elK) :: (edM l.cur ++ famM eU8 (l.rows.map elK)))[1 + (edM l.cur).length + i]? = _
    rw [show 1 + (edM l.cur).length + i = (edM l.cur).length + i + 1 by omega, List.getElem?_cons_succ, List.getElem?_append_right (by omega), Nat.add_sub_cancel_left])
  show bo _ (apL MM 1 1 (slO ((nwM l.cur l.rows).length + 4) 0) v') = _
  rw [hap, bo_some]
  have get2 : ∀ i, i ≠ (nwM l.cur l.rows).length + 4 → i < MM.length → (MM.set ((nwM l.cur l.rows).length + 4) ⟨[], 1, true, false⟩ ++ [ownB eU8 yv])[i]? = MM[i]? := fun i q1 q2 => by
    rw [List.getElem?_append_left (by rw [List.length_set]; exact q2), List.getElem?_set_ne (by omega)]
  refine cut_line (wb := blk (wayT w [])) (rb := rzB) (b := (nwM l.cur l.rows).length + 5) (y := MM.length) (o := 4) (out := yv) ⟨⟨fun i x h => ?_, hok'⟩, ?_⟩ ?_ rfl ?_ rfl ?_ (by omega) ?_
  · have hi := (List.getElem?_eq_some_iff.1 h).1
    have hi2 : i < 1 + (edM l.cur).length + famN (l.rows.map elK) := by simp at hi; omega
    rw [get2 _ (by omega) (by omega)]
    cases i with
    | zero =>
      rw [← hMM, Nat.add_zero, List.getElem?_set_self (by rw [List.length_set, hfl]; omega)]
      exact h
    | succ i =>
      rw [get _ (by omega) (by omega), fs_get _ _ _ _ (by omega)]
      rw [List.getElem?_cons_succ, hM] at h
      exact h
  · rw [get2 _ (by omega) (by omega), ← hMM, List.getElem?_set_ne (by omega), List.getElem?_set_self (by rw [hfl]; omega)]
  · rw [get2 _ (by omega) (by omega), get _ (by omega) (by omega)]; rfl
  · rw [get2 _ (by omega) (by omega), get _ (by omega) (by omega)]; rfl
  · rw [List.getElem?_append_right (by rw [List.length_set]; omega), List.length_set, Nat.sub_self]; rfl
  · rw [hN]
    refine List.nodup_cons.2 ⟨fun h => ?_, List.nodup_cons.2 ⟨fun h => ?_, List.nodup_cons.2 ⟨fun h => ?_, List.nodup_cons.2 ⟨fun h => ?_, List.nodup_range'⟩⟩⟩⟩
    · simp only [List.mem_cons, mem_range'] at h; omega
    · simp only [List.mem_cons, mem_range'] at h; omega
    · simp only [List.mem_cons, mem_range'] at h; omega
    · rw [mem_range'] at h; omega
end Go.Ab
namespace Go.Ab
set_option maxHeartbeats 4000000

/-! ## ReadLine of the program -/
theorem s_impl_RL (w : WayT) (l : LnT) (n : Nat) (hl : l.small) (hf : askF w l = 0) (hn : inB n 1 99 = true) (hr : l.rows ≠ []) (hb : ∀ x ∈ l.rows, x.length < 1000000) : X_impl_ReadLine (rlA w l n) [] = RES l.cur l.t l.n (rdS (cnB w) n [] l.rows) := by
  obtain ⟨h40, _⟩ := line_small40 hf
  have hn1 : 1 ≤ n ∧ n ≤ 99 := by simp [inB] at hn; omega
  obtain ⟨q, hq⟩ : ∃ q, QQ = q + 1 := ⟨QQ - 1, by unfold QQ; omega⟩
  have hqq : 1000 < q := by unfold QQ at hq; omega
  obtain ⟨rows, cur, t, m⟩ := l
  have hcu : cur.length < 1000000000 := hl.2.2
  have hFi := fun (a' len' c' : Nat) (es' : List (El Int)) => RL_first w ⟨rows, cur, t, m⟩ n hl hf hn hr a' len' c' es'
  cases rows with
  | nil => exact absurd rfl hr
  | cons x r =>
    simp only at *
    have hbx := hb x (by simp)
    have hLa : ∀ k, (famX k ([] : List (El Int))).length = 0 := fun k => rfl
    have hl' : r.length + 1 ≤ 40 := h40
    have hN2 := famN_K r
    have hcnv : ∀ (yv : List Int) (es' : List (El Int)), True := fun _ _ => trivial
    by_cases hx : x = []
    · subst hx
      have s0 := s_next0 0 r.length n cur t m [] (r.map elK) (by simp) (ok_K r) hLa (by omega) (by simp [famN]; omega) (by omega)
      unfold lbV at s0
      have etl : tlS 1 0 r.length = slQ 1 (if r = [] then 0 else 0 + 1) r.length r.length := tlS_eq 1 [] r []
      rw [etl] at s0
      have ok1 : ∀ e ∈ elU [] :: r.map elK, e.ok eU8 := okUK [[]] r
      have h := hFi (if r = [] then 0 else 0 + 1) r.length r.length (elU [] :: r.map elK) ok1 rfl rfl (roS 0 []) (roS 0 []) [] (.inl ⟨rfl, rfl⟩) s0 (fun mm g1 g2 => by
        have p1 := apL_frS (E := eU8) (m := mm) (sz := 1) (bytes := 1) (n := (nwM cur ([] :: r)).length + 4) (o := 0) (len := 0) (c := 0) (l := []) rfl (by simp) (by omega)
        have p1' : apL mm 1 1 (slO ((nwM cur ([] :: r)).length + 4) 0) (roS 0 []) = _ := p1
        rw [p1', g1]
        exact apB_own (E := eU8) (m := mm) (l := []) (n := (nwM cur ([] :: r)).length + 4) (sz := 1) (cs := cellsE eU8 []) (k := 0) rfl)
      have er : rdS (cnB w) n [] ([] :: r) = if cnB w = true then ([], r) else rdS (cnB w) n [] r := by
        rw [rdS, if_pos (by simp; omega), if_neg (by simp)]
        rfl
      rw [h, er]
      by_cases hc : cnB w = true
      · rw [if_pos hc, hq]
        have hz := fz_rl w cur [] t m r.length [elU []] (r.map elK) r (ok_K r) (sz_U [[]]) (sz_K r) (by simp) (fro_K r) (if r = [] then 0 else 0 + 1) (by cases r <;> simp)
        exact rl_exit rfl rfl rfl rfl hz (show r.length < 1000000 by omega) (fun y hy => by have := hb y (by simp [hy]); omega) hcu (.inl hc)
      · have hcf : cnB w = false := by simpa using hc
        rw [if_neg hc, hcf]
        have h2 := l_RL w cur t m n hn1.2 hcf hcu r [[]] [] QQ (by unfold QQ; omega) (by simp; omega) (fun y hy => hb y (by simp [hy])) (by simp)
        exact h2
    · obtain ⟨m1, m2, m3⟩ := famM_UH x n hx
      have nU : (elU x).p.n = 1 := by unfold elU; simp [hx, Pc.n]
      have nK : (elK x).p.n = 1 := by unfold elK; simp [hx, Pc.n]
      have hNx : famN ((x :: r).map elK) = 1 + famN (r.map elK) := by rw [List.map_cons, famN, nK]
      have hget : ∀ (mm : Mem) , (∀ i, i < famN ((x :: r).map elK) → mm[5 + (edM cur).length + i]? = (famM eU8 ((x :: r).map elK))[i]?) → mm[4 + 1 + (edM cur).length + 0]? = some (ownB eU8 x) := fun mm g => by
        have := g 0 (by omega)
        rw [List.map_cons, famM, m3] at this
        exact this
      by_cases h2 : n < x.length
      · have s2 := s_next2 0 r.length n cur t m x hx hbx h2 (by omega) [] (r.map elK) (by simp) (ok_K r) hLa (by omega) (by simp [famN]; omega) (by omega)
        have okH : ∀ e ∈ elH x n :: r.map elK, e.ok eU8 := by
          intro e he
          rcases List.mem_cons.1 he with rfl | h
          · exact elH_ok x _ h2
          · exact ok_K r e h
        have h := hFi 0 (r.length + 1) (r.length + 1) (elH x n :: r.map elK) okH (by rw [hNx]; rfl) (by rw [List.map_cons, famM, famM, m2, m3]) _ (slQ (4 + 1 + (edM cur).length + 0) 0 n x.length) (x.take n) (.inr ⟨0, n, x.length, by omega, rfl, rfl⟩) s2 (fun mm g1 g2 => ap_partG mm _ _ n x.length [] x g1 (hget mm g2) (by omega) (by simp; omega))
        have hz := fz_rl w cur (x.take n) t m (r.length + 1) [] (elH x n :: r.map elK) (x.drop n :: r) okH (by simp) (fun e he => by
          rcases List.mem_cons.1 he with rfl | he
          · rfl
          · exact sz_K r e he) (by simp) (by rw [List.flatMap_cons, fro_H, fro_K]; rfl) 0 (.inr rfl)
        have er : rdS (cnB w) n [] (x :: r) = (x.take n, x.drop n :: r) := by
          rw [rdS, if_pos (by simp; omega), if_pos (by simpa using h2)]
          rfl
        rw [h, er, hq]
        exact rl_exit rfl rfl rfl rfl hz (by simp; omega) (fun y hy => by
          rcases List.mem_cons.1 hy with rfl | hy
          · simp; omega
          · have := hb y (by simp [hy]); omega) hcu (.inr (.inr (by simp; omega)))
      · have s1 := s_next1 0 r.length n cur t m x hx hbx (by omega) [] (r.map elK) (by simp) (ok_K r) hLa (by omega) (by simp [famN]; omega) (by omega)
        unfold lbV at s1
        have etl : tlS 1 0 r.length = slQ 1 (if r = [] then 0 else 0 + 1) r.length r.length := tlS_eq 1 [] r x
        rw [etl] at s1
        have ok1 : ∀ e ∈ elU x :: r.map elK, e.ok eU8 := okUK [x] r
        have h := hFi (if r = [] then 0 else 0 + 1) r.length r.length (elU x :: r.map elK) ok1 (by rw [hNx, famN, nU]) (by rw [List.map_cons, famM, famM, m1, m3]) _ (slQ (4 + 1 + (edM cur).length + 0) 0 x.length x.length) x (.inr ⟨0, x.length, x.length, by omega, rfl, rfl⟩) s1 (fun mm g1 g2 => by
          have := ap_partG mm _ _ x.length x.length [] x g1 (hget mm g2) (Nat.le_refl _) (by simp; omega)
          rw [List.take_of_length_le (Nat.le_refl _)] at this
          exact this)
        have er : rdS (cnB w) n [] (x :: r) = if cnB w = true then (x, r) else rdS (cnB w) n x r := by
          rw [rdS, if_pos (by simp; omega), if_neg (by simpa using h2)]
          rfl
        rw [h, er]
        by_cases hc : cnB w = true
        · rw [if_pos hc, hq]
          have hz := fz_rl w cur x t m r.length [elU x] (r.map elK) r (ok_K r) (sz_U [x]) (sz_K r) (by simp) (fro_K r) (if r = [] then 0 else 0 + 1) (by cases r <;> simp)
          exact rl_exit rfl rfl rfl rfl hz (show r.length < 1000000 by omega) (fun y hy => by have := hb y (by simp [hy]); omega) hcu (.inl hc)
        · have hcf : cnB w = false := by simpa using hc
          rw [if_neg hc, hcf]
          have h3 := l_RL w cur t m n hn1.2 hcf hcu r [x] x QQ (by unfold QQ; omega) (by simp; omega) (fun y hy => hb y (by simp [hy])) (by omega)
          exact h3
end Go.Ab
namespace Go.Ab
set_option maxHeartbeats 4000000

/-! ## ReadLine of the program: its answer as a thing -/
theorem has_line {mm : Mem} {y o k n : Nat} {cur out : List Int} {t : Bool} {m : Int} {es : List (El Int)} (H : LineSeg mm o cur es) (hy : mm[y]? = some (ownB eU8 out)) (hyo : y < o ∨ o + (1 + (edM cur).length + famN es) ≤ y) (hn : famN es < 4000000) : Has mm (lrV 0 true (slO y n) nilW (slO o k) (edV (o + 1) cur) t m) ([y] ++ List.range' o (1 + (edM cur).length + famN es)) (lrV 0 true (slO 0 n) nilW (slO 1 k) (edV 2 cur) t m) (ownB eU8 out :: famB (2 + (edM cur).length) 1 es :: (edM cur ++ famM eU8 es)) := by
  have hE := edM_le cur
  have hnd : ([y] ++ List.range' o (1 + (edM cur).length + famN es)).Nodup := List.nodup_cons.2 ⟨fun h => by have h : y ∈ List.range' o (1 + (edM cur).length + famN es) := h; rw [mem_range'] at h; omega, List.nodup_range'⟩
  have l2 := H.loc2 [y] hnd
  have hix := ix_line hnd
  have h1 : reachF 4194304 mm (y :: List.range' o (1 + (edM cur).length)) [] = some ([y] ++ List.range' o (1 + (edM cur).length + famN es)) := by
    obtain ⟨K, hK⟩ : ∃ K, (4194304 : Nat) = K + 1 := ⟨4194303, rfl⟩
    rw [hK, reach_one hy (by simp) (nmB_own eU8 out), List.append_nil]
    exact H.reach [y] _ (fun x hx => by simp at hx; omega) (by omega)
  have h2 : locM mm ([y] ++ List.range' o (1 + (edM cur).length + famN es)) ([y] ++ List.range' o (1 + (edM cur).length + famN es)) = some (ownB eU8 out :: famB (2 + (edM cur).length) 1 es :: (edM cur ++ famM eU8 es)) := by
    have e : [y].length + 1 + (edM cur).length = 2 + (edM cur).length := rfl
    rw [e] at l2
    show locM mm _ (y :: List.range' o (1 + (edM cur).length + famN es)) = _
    rw [loc_one hy (locB_own eU8 _ out), l2]
    rfl
  have i0 := hix 0 (by omega)
  have iy : ixOf ([y] ++ List.range' o (1 + (edM cur).length + famN es)) y = some 0 := by simp
  refine has_of ?_ h2 ?_
  · rw [← h1, ← nm_edV]
    simp
  · generalize [y] ++ List.range' o (1 + (edM cur).length + famN es) = RR at *
    unfold edV
    by_cases hd : cur = []
    · simp at i0
      simp [hd, i0, iy]
    · have i1 := hix 1 (by unfold edM; rw [if_neg hd]; simp; omega)
      simp at i0
      simp [hd, i0, i1, iy]
abbrev raM (O cur : List Int) (R : List (List Int)) : Mem := ownB eU8 O :: famB (2 + (edM cur).length) 1 (R.map elK) :: (edM cur ++ famM eU8 (R.map elK))
theorem raM_seg (O cur : List Int) (R : List (List Int)) : LineSeg (raM O cur R) 1 cur (R.map elK) := ⟨fun i x h => by
  rw [Nat.add_comm]
  exact h, ok_K R⟩
theorem can_ra (O cur : List Int) (t : Bool) (m : Int) (R : List (List Int)) (hR : R.length < 1000000) : Can (lrV 0 true (slO 0 O.length) nilW (slO 1 R.length) (edV 2 cur) t m) (raM O cur R) := by
  have hN := famN_K R
  have h := has_line (n := O.length) (k := R.length) (t := t) (m := m) (raM_seg O cur R) (y := 0) (out := O) rfl (by omega) (by omega)
  have e : ([0] ++ List.range' 1 (1 + (edM cur).length + famN (R.map elK))) = List.range (raM O cur R).length := by
    have : (raM O cur R).length = (1 + (edM cur).length + famN (R.map elK)) + 1 := by simp; omega
    rw [this, List.range_eq_range', List.range'_succ]
    rfl
  rw [e] at h
  exact h
end Go.Ab
namespace Go.Ab
set_option maxHeartbeats 4000000

theorem hd_ra (O cur : List Int) (R : List (List Int)) : HdM (raM O cur R) := by
  intro N
  refine mapB_mk fun i b hb => ?_
  have hm := List.mem_of_getElem? hb
  have hlen : (raM O cur R).length = 2 + (edM cur).length + famN (R.map elK) := by simp; omega
  rcases List.mem_cons.1 hm with rfl | hm
  · exact ⟨_, shB_own eU8 eU8_hard _ _ O⟩
  · rcases List.mem_cons.1 hm with rfl | hm
    · have hr := fam_rnH eU8 (j := 7) (π := sft N (raM O cur R).length) (R.map elK) (2 + (edM cur).length) (N + (2 + (edM cur).length)) (ok_K R) (okH_K R) (fun i hi => by unfold sft; rw [if_pos (by omega)]; congr 1; omega)
      unfold shB famB
      rw [if_pos ⟨rfl, rfl⟩]
      split
      · exact ⟨_, rfl⟩
      · exact ⟨_, by rw [hr]; rfl⟩
    · obtain ⟨j, hj, rfl⟩ := List.getElem_of_mem hm
      obtain ⟨x, e⟩ := own_all cur (R.map elK) j hj
      rw [List.getElem?_eq_getElem hj] at e
      rw [Option.some.inj e]
      exact ⟨_, shB_own eU8 eU8_hard _ _ x⟩
theorem rn_ra (O cur : List Int) (t : Bool) (m : Int) (R : List (List Int)) (n k N : Nat) : rnV 8 hard (sft N (raM O cur R).length) (lrV 0 true (slO 0 n) nilW (slO 1 k) (edV 2 cur) t m) = some (lrV 0 true (slO N n) nilW (slO (N + 1) k) (edV (N + 2) cur) t m) := by
  have hlen : (raM O cur R).length = 2 + (edM cur).length + famN (R.map elK) := by simp; omega
  rw [hlen]
  have h0 : 0 < 2 + (edM cur).length + famN (R.map elK) := by omega
  have h1 : 1 < 2 + (edM cur).length + famN (R.map elK) := by omega
  unfold edV
  by_cases hd : cur = []
  · generalize 2 + (edM cur).length + famN (R.map elK) = LL at *
    simp [hd, h0, h1]
  · have e1 : (edM cur).length = 1 := by unfold edM; rw [if_neg hd]; rfl
    have h2 : 2 < 2 + (edM cur).length + famN (R.map elK) := by omega
    generalize 2 + (edM cur).length + famN (R.map elK) = LL at *
    simp [hd, h0, h1, h2]
theorem fz_ra (O cur : List Int) (t : Bool) (m : Int) (R : List (List Int)) : fz 64 (raM O cur R) (lrV 0 true (slO 0 O.length) nilW (slO 1 R.length) (edV 2 cur) t m) = some (lrV 0 true (frS eU8 O) (roS 0 []) (frS eBS R) (frS eU8 cur) t m) := by
  have f1 : fz 63 (raM O cur R) (slO 0 O.length) = some (frS eU8 O) := by simp
  have f2 : fz 63 (raM O cur R) (slO 1 R.length) = some (frS eBS R) := by
    have := fz_partF (k := 60) (c := R.length) (j := 1) (b := 2 + (edM cur).length) (mm := raM O cur R) (P := ownB eU8 O :: famB (2 + (edM cur).length) 1 (R.map elK) :: edM cur) (Q := []) (L := []) (R := R.map elK) rfl (by simp) (by simp [famN]; omega) (ok_K R) (by simp) (sz_K R)
    rw [List.length_map, fro_K] at this
    exact this
  have f3 := fz_edV (raM O cur R) 2 cur (fun hd => by
    have e1 : edM cur = [ownB eU8 cur] := by unfold edM; rw [if_neg hd]
    simp only [raM, List.getElem?_cons_succ]
    rw [e1]
    rfl)
  rw [fz_agg]
  simp only [mapO, f1, f2, f3]
  rfl
/-- A line's answer, frozen. -/
abbrev lrF (c : Int) (b : Bool) (O E : List Int) (l : LnT) : Value := lrV c b (frS eU8 O) (frS eU8 E) (frS eBS l.rows) (frS eU8 l.cur) l.t l.n
end Go.Ab
namespace Go.Ab
set_option maxHeartbeats 4000000

/-! ## Answers without a piece, and faults, as things -/
abbrev r0M (cur : List Int) : Mem := ownB eU8 [] :: edM cur
theorem lnM_0 (l : LnT) (hr : l.rows = []) : lnM l = r0M l.cur := by
  unfold lnM
  rw [hr]
  simp [famM, famB, famX]
  rfl
theorem can_r0 (cur : List Int) (t : Bool) (m : Int) : Can (lrV 0 false nilW nilW (slO 0 0) (edV 1 cur) t m) (r0M cur) := by
  by_cases hd : cur = []
  · subst hd
    exact ⟨by simp [edV, edM], by simp [edV, edM], by simp [edV, edM]⟩
  · have e1 : edM cur = [ownB eU8 cur] := by unfold edM; rw [if_neg hd]
    have e2 : edV 1 cur = slO 1 cur.length := by unfold edV; rw [if_neg hd]
    rw [r0M, e1, e2]
    exact ⟨by simp, by simp, by simp⟩
theorem hd_r0 (cur : List Int) : HdM (r0M cur) := by
  intro N
  refine mapB_mk fun i b hb => ?_
  have hm := List.mem_of_getElem? hb
  rcases List.mem_cons.1 hm with rfl | hm
  · exact ⟨_, shB_own eU8 eU8_hard _ _ []⟩
  · obtain ⟨x, rfl⟩ := edM_own cur b hm
    exact ⟨_, shB_own eU8 eU8_hard _ _ x⟩
theorem rn_r0 (cur : List Int) (t : Bool) (m : Int) (N : Nat) : rnV 8 hard (sft N (r0M cur).length) (lrV 0 false nilW nilW (slO 0 0) (edV 1 cur) t m) = some (lrV 0 false nilW nilW (slO N 0) (edV (N + 1) cur) t m) := by
  by_cases hd : cur = []
  · subst hd
    simp [edV, edM]
  · have e1 : edM cur = [ownB eU8 cur] := by unfold edM; rw [if_neg hd]
    have e2 : ∀ k, edV k cur = slO k cur.length := fun k => by unfold edV; rw [if_neg hd]
    rw [r0M, e1, e2, e2]
    simp
theorem fz_r0 (cur : List Int) (t : Bool) (m : Int) : fz 64 (r0M cur) (lrV 0 false nilW nilW (slO 0 0) (edV 1 cur) t m) = some (lrF 0 false [] [] ⟨[], cur, t, m⟩) := by
  have f3 := fz_edV (r0M cur) 1 cur (fun hd => by
    have e1 : edM cur = [ownB eU8 cur] := by unfold edM; rw [if_neg hd]
    rw [r0M, e1]
    rfl)
  rw [fz_agg]
  simp only [mapO, f3]
  rfl
theorem can_rb (c : Int) : Can (lrB c) [] := ⟨by simp, by simp, by simp⟩
theorem rn_rb (c : Int) (N : Nat) : rnV 8 hard (sft N 0) (lrB c) = some (lrB c) := by simp
theorem fz_rb (c : Int) : fz 64 [] (lrB c) = some (lrF c false [] [] ⟨[], [], false, 0⟩) := by simp [frS_nil]
end Go.Ab
namespace Go.Ab
set_option maxHeartbeats 4000000

/-! ## The reference's answers, frozen -/
theorem fz_sp (O cur : List Int) (t : Bool) (m : Int) (p R : List (List Int)) : fz 64 [ownB eU8 O, ownB eBS (p ++ R)] (lrV 0 true (slO 0 O.length) nilW (rdyV 1 p R) (frS eU8 cur) t m) = some (lrF 0 true O [] ⟨R, cur, t, m⟩) := by
  have f1 : fz 63 [ownB eU8 O, ownB eBS (p ++ R)] (slO 0 O.length) = some (frS eU8 O) := by simp
  have f2 : fz 63 [ownB eU8 O, ownB eBS (p ++ R)] (rdyV 1 p R) = some (frS eBS R) := by
    cases R with
    | nil => rfl
    | cons x r =>
      have := fzO_part eBS 61 [ownB eU8 O, ownB eBS (p ++ x :: r)] (l := p ++ x :: r) (o := p.length) (a := p.length) (len := (x :: r).length) (by simp) (by simp)
      rw [List.drop_left, List.take_of_length_le (Nat.le_refl _)] at this
      rw [rdyV_cons, fz_slO]
      exact this
  have f3 : fz 63 [ownB eU8 O, ownB eBS (p ++ R)] (frS eU8 cur) = some (frS eU8 cur) := by simp
  rw [fz_agg]
  simp only [mapO, f1, f2, f3]
  rfl
theorem fz_sp0 (cur : List Int) (t : Bool) (m : Int) : fz 64 [ownB eU8 []] (lrV 0 false (slO 0 0) nilW nilW (frS eU8 cur) t m) = some (lrF 0 false [] [] ⟨[], cur, t, m⟩) := by
  have f3 : fz 63 [ownB eU8 []] (frS eU8 cur) = some (frS eU8 cur) := by simp
  rw [fz_agg]
  simp only [mapO, f3]
  rfl
end Go.Ab
namespace Go.Ab
set_option maxHeartbeats 8000000

/-! ## FnReads: its loops -/
abbrev rMem (w : WayT) (L : LnT) (b : Bool) (O : List Int) (R : LnT) (Q : Mem) : Mem := wB w :: blk (lnT L []) :: blk (lrC 0 b (frS eU8 O) (frS eU8 []) (frS eBS R.rows) (frS eU8 R.cur) R.t R.n) :: Q
theorem l_reads0 (w : WayT) (L : LnT) (n : Int) (b : Bool) (O : List Int) (R : LnT) (r : List (List Int)) : ∀ (p : List (List Int)) (all : List Int) (q : Nat), L.rows = p ++ r → r.length < q → L.rows.length < 1000 → all.length + sumL r < 1000000 → ∃ q', q ≤ q' + r.length + 1 ∧ L_laws_FnReads 0 q 0 [ptr0, pt 1, .int .i64 n, pt 2, slO 3 all.length, .int .i64 p.length] (rMem w L b O R [ownB eU8 all]) = L_laws_FnReads 0 q' 1 [ptr0, pt 1, .int .i64 n, pt 2, slO 3 (all ++ r.flatten).length, slO 4 0, .int .i64 0] (rMem w L b O R [ownB eU8 (all ++ r.flatten), ownB eU8 []]) := by
  obtain ⟨rows, cur, t, nn⟩ := L
  simp only
  induction r with
  | nil =>
    intro p all q hp hq hl ha
    obtain ⟨q, rfl⟩ : ∃ n, q = n + 1 := ⟨q - 1, by omega⟩
    have hp : rows = p := by simpa using hp
    subst hp
    have e0 : (⟨[], 1, true, true⟩ : Blk) = ownB eU8 [] := rfl
    refine ⟨q, by omega, ?_⟩
    simp (maxSteps := 1000000) -implicitDefEqProofs [L_laws_FnReads, cutK_eq, e0, rMem]
  | cons x r ih =>
    intro p all q hp hq hl ha
    obtain ⟨q, rfl⟩ : ∃ n, q = n + 1 := ⟨q - 1, by omega⟩
    rw [sumL] at ha
    obtain ⟨q', g1, g2⟩ := ih (p ++ [x]) (all ++ x) q (by simp [hp]) (by simp at hq; omega) hl (by simp; omega)
    have hx := ixa_mid eBS (sz := 1) rfl .i64 p x r
    have hw := wrap_next (n := p.length) (by rw [hp] at hl; simp at hl; omega)
    have p1 := fun m n o c => apL_frS (E := eU8) (m := m) (sz := 1) (bytes := 1) (n := n) (o := o) (len := all.length) (c := c) (l := x) rfl (by omega) (by omega)
    have p3 := fun m n cs kk => apB_own (E := eU8) (m := m) (l := all) (n := n) (sz := 1) (cs := cs) (k := kk) rfl
    have hce : (⟨cellsE eU8 all ++ cellsE eU8 x, 1, true, true⟩ : Blk) = ownB eU8 (all ++ x) := by rw [← cellsE_append]; rfl
    refine ⟨q', by simp; omega, ?_⟩
    have e1 : all ++ x ++ r.flatten = all ++ (x :: r).flatten := by simp
    have e2 : ((p ++ [x]).length : Int) = (p.length : Int) + 1 := by simp
    rw [e1, e2] at g2
    refine Eq.trans ?_ g2
    rw [List.length_append]
    subst hp
    simp (maxSteps := 1000000) -implicitDefEqProofs [L_laws_FnReads, cutK_eq, rMem, hx, hw, p1, p3, hce]
end Go.Ab
namespace Go.Ab
set_option maxHeartbeats 8000000

theorem cvBS_frS (m : Mem) (l : List Int) : cvBS m (frS eU8 l) = some (.string (bstr l)) := by
  show (if (cellsE eU8 l).toArray.size = l.length then ob (bytesOf (cellsE eU8 l)) fun x => some (Value.string ⟨x.toArray⟩) else none) = _
  have hb : bytesOf (cellsE eU8 l) = some (l.map fun n => UInt8.ofNat n.toNat) := by
    induction l with
    | nil => rfl
    | cons x l ih =>
      rw [cellsE_cons]
      show bytesOf (.int .u8 x :: cellsE eU8 l) = _
      unfold bytesOf
      rw [ih]
      rfl
  rw [if_pos (by simp), hb]
  rfl
theorem s_lwSame (a : List Int) : X_laws_lwSame [frS eU8 a, frS eU8 a] [] = some (.bool true, []) := by
  have h := cvBS_frS [] a
  simp -implicitDefEqProofs [X_laws_lwSame, retK_eq, h]
theorem s_HasFlag1 (w : WayT) (hw : wayF w = 0) : X_impl_HasFlag [wayV w, .int .i64 1] [] = some (.bool (cnB w), []) := by
  have c1 := s_impl_WayFault w
  have c2 := s_impl_Way_has w
  have c3 := s_impl_in 1 1 511
  have e : inB 1 1 511 = true := rfl
  have ea : andI .i64 1 (IntKind.i64.wrap 0) = 0 := rfl
  rw [e] at c3
  rw [hw] at c1
  simp -implicitDefEqProofs [X_impl_HasFlag, retK_eq, c1, c2, c3, ea]
theorem reads_end (w : WayT) (L : LnT) (n : Int) (b cn : Bool) (O left : List Int) (R : LnT) (q : Nat) (i : Nat) (hi : i = R.rows.length) (hcn : X_impl_HasFlag [wayV w, .int .i64 1] [] = some (.bool cn, [])) (hB : (O.length : Int) ≤ n) (h1 : cn = true → ∀ x r, L.rows = x :: r → O.length ≤ x.length) (h2 : cn = false → n ≤ ((O ++ left).length : Int) → (O.length : Int) = n) (hb : b = decide (0 < L.rows.length)) (hcur : R.cur = L.cur) (hLF : X_impl_LineFault [lnV R] [] = some (.int .i64 0, [])) (hS : ∀ m, icall X_spec_ReadLine (rlA w L n) m = some (lrF 0 b O [] R, m)) (hlen : O.length + left.length < 100000) (hn : n < 1000) : L_laws_FnReads 0 (q + 1) 1 [ptr0, pt 1, .int .i64 n, pt 2, slO 3 (O ++ left).length, slO 4 left.length, .int .i64 i] (rMem w L b O R [ownB eU8 (O ++ left), ownB eU8 left]) = some (.bool true, []) := by
  obtain ⟨rows, cur, t, nn⟩ := L
  obtain ⟨Rr, Rc, Rt, Rn⟩ := R
  simp only at *
  subst hi hcur
  have e0 : (⟨[], 1, true, true⟩ : Blk) = ownB eU8 [] := rfl
  have p1 := fun m n o c => apL_frS (E := eU8) (m := m) (sz := 1) (bytes := 1) (n := n) (o := o) (len := 0) (c := c) (l := O) rfl (by omega) (by omega)
  have p2 := fun m n o c kk o2 c2 => apL_sl (m := m) (sz := 1) (bytes := 1) (n := n) (o := o) (len := O.length) (c := c) (n2 := kk) (o2 := o2) (len2 := left.length) (c2 := c2) (by omega) (by omega)
  have b0 : ∀ m n cs k, apB m (some (ownB eU8 [])) n 0 0 1 cs k = some (slO m.length k, m.set n ⟨cellsE eU8 [], 1, true, false⟩ ++ [⟨cs, 1, true, true⟩]) := fun m n cs k => by
    have := apB_own (E := eU8) (m := m) (l := []) (n := n) (sz := 1) (cs := cs) (k := k) rfl
    simpa [cellsE] using this
  have k1 : (⟨cellsE eU8 O, 1, true, true⟩ : Blk) = ownB eU8 O := rfl
  have p3 := fun m n cs kk => apB_own (E := eU8) (m := m) (l := O) (n := n) (sz := 1) (cs := cs) (k := kk) rfl
  have hrd := rd_all left
  rw [Nat.mul_one] at hrd
  have hce : (⟨cellsE eU8 O ++ cellsE eU8 left, 1, true, true⟩ : Blk) = ownB eU8 (O ++ left) := by rw [← cellsE_append]; rfl
  have f1 : ∀ k m, fzO (k + 1) m (some (ownB eU8 (O ++ left))) 0 (O.length + left.length) = some (frS eU8 (O ++ left)) := fun k m => by have := fzO_own eU8 k m (O ++ left); simpa using this
  have w1 := s_lwSame (O ++ left)
  have w2 := s_lwSame O
  have w3 := s_lwSame Rc
  have hnb : ∀ m, icall X_spec_ReadLine [wayV w, .agg #[frS eBS rows, frS eU8 Rc, .bool t, .int .i64 nn], .int .i64 n] m = _ := hS
  cases cn
  · have h2 := h2 rfl
    by_cases hg : n ≤ ((O ++ left).length : Int)
    · have h2 := h2 hg
      have hg' : n ≤ (O.length : Int) + left.length := by simpa using hg
      have hg2 : n ≤ n + (left.length : Int) := by omega
      rcases rows with _ | ⟨x, r⟩ <;> simp (maxSteps := 2000000) -implicitDefEqProofs [-icall_eq, L_laws_FnReads, retK_eq, rMem, hcn, e0, p1, p2, b0, k1, p3, hrd, hce, f1, w1, w2, w3, hLF, hnb, hb, hB, hg', hg2, h2]
    · have hg' : ¬ n ≤ (O.length : Int) + left.length := by simpa using hg
      rcases rows with _ | ⟨x, r⟩ <;> simp (maxSteps := 2000000) -implicitDefEqProofs [-icall_eq, L_laws_FnReads, retK_eq, rMem, hcn, e0, p1, p2, b0, k1, p3, hrd, hce, f1, w1, w2, w3, hLF, hnb, hb, hB, hg']
  · rcases rows with _ | ⟨x, r⟩
    · simp (maxSteps := 2000000) -implicitDefEqProofs [-icall_eq, L_laws_FnReads, retK_eq, rMem, hcn, e0, p1, p2, b0, k1, p3, hrd, hce, f1, w1, w2, w3, hLF, hnb, hb, hB]
    · have h1 := h1 rfl x r rfl
      have h1' : ¬ (x.length : Int) < O.length := by omega
      have hx0 := ixa_mid eBS (sz := 1) rfl .i64 [] x r
      simp only [List.nil_append, List.length_nil, Int.natCast_zero] at hx0
      simp (maxSteps := 2000000) -implicitDefEqProofs [-icall_eq, L_laws_FnReads, retK_eq, rMem, hcn, e0, p1, p2, b0, k1, p3, hrd, hce, f1, w1, w2, w3, hLF, hnb, hb, hB, h1', hx0]
end Go.Ab
namespace Go.Ab
set_option maxHeartbeats 8000000

/-! ## What is read is what was ready -/
theorem l_reads1 (w : WayT) (L : LnT) (n : Int) (b : Bool) (O all : List Int) (R : LnT) (fin : ∀ q, L_laws_FnReads 0 (q + 1) 1 [ptr0, pt 1, .int .i64 n, pt 2, slO 3 all.length, slO 4 R.rows.flatten.length, .int .i64 R.rows.length] (rMem w L b O R [ownB eU8 all, ownB eU8 R.rows.flatten]) = some (.bool true, [])) (r : List (List Int)) : ∀ (p : List (List Int)) (q : Nat), R.rows = p ++ r → r.length < q → R.rows.length < 1000 → sumL R.rows < 1000000 → L_laws_FnReads 0 q 1 [ptr0, pt 1, .int .i64 n, pt 2, slO 3 all.length, slO 4 p.flatten.length, .int .i64 p.length] (rMem w L b O R [ownB eU8 all, ownB eU8 p.flatten]) = some (.bool true, []) := by
  obtain ⟨rows, cur, t, nn⟩ := R
  simp only at *
  induction r with
  | nil =>
    intro p q hp hq hl ha
    obtain ⟨q, rfl⟩ : ∃ n, q = n + 1 := ⟨q - 1, by omega⟩
    have hp : rows = p := by simpa using hp
    subst hp
    exact fin q
  | cons x r ih =>
    intro p q hp hq hl ha
    obtain ⟨q, rfl⟩ : ∃ n, q = n + 1 := ⟨q - 1, by omega⟩
    have h := ih (p ++ [x]) q (by simp [hp]) (by simp at hq; omega) hl ha
    have hx := ixa_mid eBS (sz := 1) rfl .i64 p x r
    have hw := wrap_next (n := p.length) (by rw [hp] at hl; simp at hl; omega)
    have hsum : ∀ l : List (List Int), l.flatten.length = sumL l := by
      intro l
      induction l with
      | nil => rfl
      | cons y l ih => rw [List.flatten_cons, List.length_append, sumL, ih]
    rw [hp, sumL_app, sumL] at ha
    have hpl := hsum p
    have p1 := fun m n o c => apL_frS (E := eU8) (m := m) (sz := 1) (bytes := 1) (n := n) (o := o) (len := p.flatten.length) (c := c) (l := x) rfl (by omega) (by omega)
    have p3 := fun m n cs kk => apB_own (E := eU8) (m := m) (l := p.flatten) (n := n) (sz := 1) (cs := cs) (k := kk) rfl
    have hce : (⟨cellsE eU8 p.flatten ++ cellsE eU8 x, 1, true, true⟩ : Blk) = ownB eU8 (p.flatten ++ x) := by rw [← cellsE_append]; rfl
    have e1 : (p ++ [x]).flatten = p.flatten ++ x := by simp
    have e2 : ((p ++ [x]).length : Int) = (p.length : Int) + 1 := by simp
    rw [e1, e2] at h
    rw [List.length_append] at h
    refine Eq.trans ?_ h
    clear ih fin h
    subst hp
    generalize p.flatten = pf at *
    simp (maxSteps := 1000000) -implicitDefEqProofs [L_laws_FnReads, cutK_eq, rMem, hx, hw, p1, p3, hce]
theorem sumL_memR : ∀ (l : List (List Int)) x, x ∈ l → x.length ≤ sumL l
  | [], x, h => by cases h
  | y :: r, x, h => by
    rw [sumL]
    rcases List.mem_cons.1 h with rfl | h
    · omega
    · have := sumL_memR r x h
      omega
theorem rdS_facts (c : Bool) (n : Nat) : ∀ (r : List (List Int)) (out : List Int), out.length ≤ n → (rdS c n out r).1.length ≤ n ∧ (rdS c n out r).2.length ≤ r.length ∧ sumL (rdS c n out r).2 ≤ sumL r
  | [], out, h => by simp [rdS, h]
  | x :: r, out, h => by
    rw [rdS]
    split
    · split
      · refine ⟨by simp; omega, by simp, ?_⟩
        simp only [sumL, List.length_drop]
        omega
      · split
        · refine ⟨by simp; omega, by simp, ?_⟩
          simp only [sumL]
          omega
        · obtain ⟨i1, i2, i3⟩ := rdS_facts c n r (out ++ x) (by simp; omega)
          refine ⟨i1, by simp; omega, ?_⟩
          simp only [sumL]
          omega
    · exact ⟨h, Nat.le_refl _, Nat.le_refl _⟩
theorem rdS_join (c : Bool) (n : Nat) : ∀ (r : List (List Int)) (out : List Int), (rdS c n out r).1 ++ (rdS c n out r).2.flatten = out ++ r.flatten
  | [], out => by simp [rdS]
  | x :: r, out => by
    rw [rdS]
    split
    · split
      · simp only [List.flatten_cons]
        rw [List.append_assoc, ← List.append_assoc (x.take _), List.take_append_drop]
      · split
        · simp
        · rw [rdS_join c n r (out ++ x)]
          simp
    · rfl
theorem rdS_one (n : Nat) (hn : 1 ≤ n) (x : List Int) (r : List (List Int)) : (rdS true n [] (x :: r)).1.length ≤ x.length := by
  rw [rdS, if_pos (by simp; omega)]
  split
  · simp
    omega
  · simp
theorem rdS_full (n : Nat) : ∀ (r : List (List Int)) (out : List Int), out.length ≤ n → n ≤ (out ++ r.flatten).length → (rdS false n out r).1.length = n
  | [], out, h1, h2 => by
    simp at h2
    simp [rdS]
    omega
  | x :: r, out, h1, h2 => by
    rw [rdS]
    split
    · split
      · simp
        omega
      · rw [if_neg (by simp)]
        exact rdS_full n r (out ++ x) (by simp; omega) (by simpa using h2)
    · simp
      omega
end Go.Ab
namespace Go.Ab
set_option maxHeartbeats 4000000

/-! ## The bytes of a law -/
theorem wf_u8 {n : Int} (h : wfI .u8 n) : 0 ≤ n ∧ n < 256 := by
  have := wfI_u8 h
  omega
theorem typed_code {s e : Nat} {a : Value} (h : Typed CT s [a]) (hs : (CT.ty s).d = .slice e) (he : (CT.ty e).d = .int .u8) (hz : (CT.ty e).size = 1) : ∃ l : List Int, a = frS eU8 l ∧ l.length ≤ maxLen ∧ ∀ n ∈ l, 0 ≤ n ∧ n < 256 := by
  obtain ⟨l, h1, h2, h3⟩ := typed_ints h hs he hz
  exact ⟨l, by rw [h1, frS_ints], h2, fun n hn => wf_u8 (h3 n hn)⟩
end Go.Ab
namespace Go.Ab
open Go.Proofs
set_option maxHeartbeats 8000000

/-! ## FnReads -/
theorem icall_of {X : List Value → Mem → Option VM} {args : List Value} {v0 w : Value} {M0 : Mem} (ha : args.all scal2 = true) (hX : X args [] = some (v0, M0)) (hz : fz 64 M0 v0 = some w) (m : Mem) : icall X args m = some (w, m) := by
  rw [icall_eq, if_pos ha, hX, bo_some]
  simp only [hz, bo_some]
theorem rlA_scal (w : WayT) (L : LnT) (n : Int) : (rlA w L n).all scal2 = true := by
  simp
def RdF (w : WayT) (L : LnT) (n : Int) (b : Bool) (O : List Int) (L' : LnT) : Prop :=
  1 ≤ n ∧ n ≤ 99 ∧ askF w L = 0 ∧ b = decide (0 < L.rows.length) ∧ O ++ L'.rows.flatten = L.rows.flatten ∧ (O.length : Int) ≤ n ∧ (cnB w = true → ∀ x r, L.rows = x :: r → O.length ≤ x.length) ∧ (cnB w = false → n ≤ (L.rows.flatten.length : Int) → (O.length : Int) = n) ∧ L'.cur = L.cur ∧ L'.n = L.n ∧ L'.rows.length ≤ L.rows.length ∧ sumL L'.rows ≤ sumL L.rows
theorem z_both (w : WayT) (L : LnT) (n : Int) (hd : lnD L) : ∃ (c : Int) (b : Bool) (O : List Int) (L' : LnT), (∀ m, icall X_impl_ReadLine (rlA w L n) m = some (lrF c b O [] L', m)) ∧ (∀ m, icall X_spec_ReadLine (rlA w L n) m = some (lrF c b O [] L', m)) ∧ (¬ c = 0 ∨ (c = 0 ∧ RdF w L n b O L')) := by
  obtain ⟨d1, d2, d3, d4, d5⟩ := hd
  have hs : L.small := ⟨by omega, fun x hx => by have := d2 x hx; omega, by omega⟩
  have ha := rlA_scal w L n
  have bad : ∀ c, ¬ c = 0 → X_impl_ReadLine (rlA w L n) [] = some (lrB c, []) → X_spec_ReadLine (rlA w L n) [] = some (lrB c, []) → ∃ (c : Int) (b : Bool) (O : List Int) (L' : LnT), (∀ m, icall X_impl_ReadLine (rlA w L n) m = some (lrF c b O [] L', m)) ∧ (∀ m, icall X_spec_ReadLine (rlA w L n) m = some (lrF c b O [] L', m)) ∧ (¬ c = 0 ∨ (c = 0 ∧ RdF w L n b O L')) := fun c hc h1 h2 =>
    ⟨c, false, [], ⟨[], [], false, 0⟩, icall_of ha h1 (fz_rb c), icall_of ha h2 (fz_rb c), .inl hc⟩
  by_cases hk : askF w L = 0
  · cases ho : inB n 1 99
    · exact bad 3 (by omega) (s_impl_RL_3 w L n hs hk ho) (s_spec_RL_3 w L n hs hk ho)
    · have hx : 1 ≤ n ∧ n ≤ 99 := by simpa [inB] using ho
      by_cases hr : L.rows = []
      · have S := s_spec_RL_0 w L n hs hk ho hr
        have I := s_impl_RL_0 w L n hs hk ho hr
        rw [lnM_0 L hr] at I
        refine ⟨0, false, [], ⟨[], L.cur, L.t, L.n⟩, icall_of ha I (fz_r0 L.cur L.t L.n), icall_of ha S (fz_sp0 L.cur L.t L.n), .inr ⟨rfl, hx.1, hx.2, hk, by simp [hr], by simp [hr], by simp; omega, (fun _ x r h => by rw [hr] at h; cases h), (fun _ h => by rw [hr] at h; simp at h; omega), rfl, rfl, by simp, by simp [sumL]⟩⟩
      · obtain ⟨N, rfl⟩ : ∃ N : Nat, n = (N : Int) := ⟨n.toNat, by omega⟩
        obtain ⟨p, g1, g2, S⟩ := s_spec_RL w L N hs hk ho hr
        have I := s_impl_RL w L N hs hk ho hr (fun y hy => by have := d2 y hy; omega)
        have i1 := rdS_join (cnB w) N L.rows []
        have i2 : (rdS (cnB w) N [] L.rows).1.length ≤ N ∧ (rdS (cnB w) N [] L.rows).2.length ≤ L.rows.length ∧ sumL (rdS (cnB w) N [] L.rows).2 ≤ sumL L.rows := rdS_facts (cnB w) N L.rows [] (by simp)
        refine ⟨0, true, (rdS (cnB w) N [] L.rows).1, ⟨(rdS (cnB w) N [] L.rows).2, L.cur, L.t, L.n⟩, icall_of ha I ?_, icall_of ha S ?_, .inr ⟨rfl, hx.1, hx.2, hk, ?_, ?_, ?_, ?_, ?_, rfl, rfl, i2.2.1, i2.2.2⟩⟩
        · exact fz_ra _ _ _ _ _
        · exact fz_sp _ _ _ _ _ _
        · have := List.length_pos_iff.2 hr
          simp [this]
        · simpa using i1
        · have := i2.1
          omega
        · intro hc x r h
          rw [h, hc]
          exact rdS_one N (by omega) x r
        · intro hc h
          have := rdS_full N L.rows [] (by simp) (by simp only [List.nil_append]; omega)
          rw [hc]
          omega
  · exact bad _ hk (s_impl_RL_bad w L n hs hk) (s_spec_RL_bad w L n hs hk)
theorem s_FnReads (l : List Int) (hb : ∀ x ∈ l, 0 ≤ x ∧ x < 256) : X_laws_FnReads [frS eU8 l] [] = some (.bool true, []) := by
  have b0 := s_lwBig l
  by_cases hbig : 1048576 < l.length
  · simp (maxSteps := 1000000) -implicitDefEqProofs [X_laws_FnReads, retK_eq, b0, hbig]
  obtain ⟨w, L, n, hd, hD⟩ := z_DrawReadLine l (bytes_small hbig hb)
  obtain ⟨c, b, O, L', hI, hS, hc⟩ := z_both w L n hd
  rcases hc with hc | ⟨rfl, hf⟩
  · obtain ⟨rows, cur, t, nn⟩ := L
    simp (maxSteps := 2000000) -implicitDefEqProofs [-icall_eq, X_laws_FnReads, retK_eq, b0, hbig, hD, hI, hS, hc]
  · obtain ⟨f1, f2, f3, f4, f5, f6, f7, f8, f9, f10, f11, f12⟩ := hf
    obtain ⟨d1, d2, d3, d4, d5⟩ := hd
    obtain ⟨hw0, hl0⟩ := askF0 f3
    have hL : lineF L' = 0 := by
      unfold lineF LnT.size at hl0 ⊢
      rw [f9, f10]
      split at hl0
      · rename_i h
        rw [if_pos (by omega)]
        exact hl0
      · cases hl0
    have hsm : sumL L.rows ≤ 40 ∧ L.rows.length ≤ 40 := by
      unfold lineF LnT.size at hl0
      split at hl0
      · rename_i h
        omega
      · cases hl0
    have hjs : ∀ l : List (List Int), l.flatten.length = sumL l := by
      intro l
      induction l with
      | nil => rfl
      | cons y l ih => rw [List.flatten_cons, List.length_append, sumL, ih]
    have hj := hjs L'.rows
    have hL's : L'.small := ⟨by omega, fun x hx => by have := sumL_memR L'.rows x hx; omega, by rw [f9]; omega⟩
    have hLF := s_impl_LineFault L' hL's
    rw [hL] at hLF
    have hcn := s_HasFlag1 w hw0
    obtain ⟨q1, g1, g2⟩ := l_reads0 w L n b O L' L.rows [] [] QQ rfl (by unfold QQ; omega) (by omega) (by simp; omega)
    have hend := l_reads1 w L n b O (L.rows.flatten) L' (fun q => by
      rw [← f5]
      exact reads_end w L n b (cnB w) O L'.rows.flatten L' q _ rfl hcn f6 f7 (by rw [f5]; exact f8) f4 f9 hLF hS (by omega) (by omega)) L'.rows [] q1 rfl (by unfold QQ at g1; omega) (by omega) (by omega)
    have hgo := g2.trans hend
    rw [List.length_nil, List.length_nil] at hgo
    have e0 : (⟨[], 1, true, true⟩ : Blk) = ownB eU8 [] := rfl
    refine Eq.trans ?_ hgo
    obtain ⟨rows, cur, t, nn⟩ := L
    clear hgo hend g2
    simp (maxSteps := 2000000) -implicitDefEqProofs [-icall_eq, X_laws_FnReads, retK_eq, cutK_eq, b0, hbig, hD, hI, e0, rMem]
def good : List Nat := [22, 5]
theorem good_ok : goodB CT good = true := by kernel_rfl
theorem all_FnReads : ∀ xs, TypedAll CT [22] xs → Fz CT 11 xs (.bool true)
  | [a], h => by
    obtain ⟨l, rfl, _, hb⟩ := typed_code (s := 22) (e := 5) h.1 rfl rfl rfl
    exact fz_law ok_X_laws_FnReads (s_FnReads l hb) (by simp)
  | [], h => h.elim
  | _ :: _ :: _, h => h.2.elim
end Go.Ab
