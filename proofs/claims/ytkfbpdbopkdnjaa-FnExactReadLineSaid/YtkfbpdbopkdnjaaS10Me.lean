/- What the functions of the program answer, for all arguments that the theorems name as conditions. -/
import Derived.Test.YtkfbpdbopkdnjaaS10Md
namespace Go.Ab
set_option linter.unusedSimpArgs false
set_option linter.unusedVariables false
set_option maxHeartbeats 4000000

/-! ## ReadLine of the program: nothing is ready -/
theorem askF0 {w : WayT} {l : LnT} (hf : askF w l = 0) : wayF w = 0 ∧ lineF l = 0 := by
  unfold askF at hf
  split at hf
  · rename_i h; exact ⟨h, hf⟩
  · rename_i h; exact absurd hf h
theorem s_impl_RL_0 (w : WayT) (l : LnT) (n : Int) (hl : l.small) (hf : askF w l = 0) (hn : inB n 1 99 = true) (hr : l.rows = []) : X_impl_ReadLine (rlA w l n) [] = some (lrV 0 false nilW nilW (slO 0 0) (edV 1 l.cur) l.t l.n, lnM l) := by
  have c1 := s_impl_WayFault w
  have c2 := s_impl_LineFault l hl
  have c3 := s_impl_first3
  obtain ⟨h1, h2⟩ := askF0 hf
  have c4 := s_impl_Line_clone l (by rw [hr]; simp) hl.2.1 hl.2.2
  have e1 : lnM l = ownB eBS [] :: edM l.cur := by unfold lnM; rw [hr]; simp [famM, famB, famX]; rfl
  rw [e1] at c4 ⊢
  have e2 : l.rows.length = 0 := by rw [hr]; rfl
  simp only [lnW, e2] at c4
  have e5 : ∀ N k, shB N k (ownB eBS []) = some (ownB eBS []) := fun N k => rfl
  by_cases hd : l.cur = []
  · have e3 : edM l.cur = [] := by unfold edM; rw [if_pos hd]
    have e4 : ∀ k, edV k l.cur = roS 0 [] := fun k => by unfold edV; rw [if_pos hd]
    rw [e3, e4] at c4
    rw [e3, e4]
    simp (maxSteps := 400000) -implicitDefEqProofs [X_impl_ReadLine, retK_eq, c1, c2, c3, s_impl_in, s_impl_unless, h1, h2, hn, unl, c4, e5]
  · have e3 : edM l.cur = [ownB eU8 l.cur] := by unfold edM; rw [if_neg hd]
    have e4 : ∀ k, edV k l.cur = slO k l.cur.length := fun k => by unfold edV; rw [if_neg hd]
    rw [e3, e4] at c4
    rw [e3, e4]
    simp (maxSteps := 400000) -implicitDefEqProofs [X_impl_ReadLine, retK_eq, c1, c2, c3, s_impl_in, s_impl_unless, h1, h2, hn, unl, c4, e5]
end Go.Ab
namespace Go.Ab
set_option linter.unusedSimpArgs false
set_option linter.unusedVariables false
set_option maxHeartbeats 4000000

/-! ## ReadLine of the program: the first piece -/
theorem ap_partG (mm : Mem) (y z k cc : Nat) (out x : List Int) (hy : mm[y]? = some (ownB eU8 out)) (hz : mm[z]? = some (ownB eU8 x)) (hk : k ≤ x.length) (hb : out.length + x.length < 1000000000) : apL mm 1 1 (slO y out.length) (slQ z 0 k cc) = some (slO mm.length (out ++ x.take k).length, mm.set y ⟨cellsE eU8 out, 1, true, false⟩ ++ [ownB eU8 (out ++ x.take k)]) := by
  have ek : (cellsE eU8 (x.take k)).length = k := by rw [cellsE_len]; simp; omega
  have hr : rdM (some (ownB eU8 x)) 0 (k * 1) = some (cellsE eU8 (x.take k)) := by
    have ex : cellsE eU8 x = cellsE eU8 (x.take k) ++ cellsE eU8 (x.drop k) := by rw [← cellsE_append, List.take_append_drop]
    have exl : k ≤ (cellsE eU8 x).length := by rw [ex, List.length_append]; omega
    unfold rdM fzO.rdB
    by_cases h0 : k = 0
    · subst h0
      rw [if_pos rfl]
      rfl
    · rw [if_neg (by omega)]
      simp only
      rw [if_neg (by omega), if_pos ⟨rfl, by show 0 + k * 1 ≤ (cellsE eU8 x).length; omega⟩]
      show some (((cellsE eU8 x).drop 0).take (k * 1)) = _
      rw [List.drop_zero, Nat.mul_one, ex, List.take_left' ek]
  have ek2 : (x.take k).length = k := by simp; omega
  have p2 := apB_own (E := eU8) (m := mm) (l := out) (n := y) (sz := 1) (cs := cellsE eU8 (x.take k)) (k := k) rfl
  rw [apL_sl (by omega) (by omega), hz, hr, bo_some, hy, p2, List.length_append, ek2]
  have : (⟨cellsE eU8 out ++ cellsE eU8 (x.take k), 1, true, true⟩ : Blk) = ownB eU8 (out ++ x.take k) := by rw [← cellsE_append]; rfl
  rw [this]
  rfl
abbrev cdB : Blk := ⟨[.int .i64 0, .int .i64 0, .int .i64 0], 1, true, true⟩
abbrev nwM (cur : List Int) (rows : List (List Int)) : Mem := famB (5 + (edM cur).length) 1 (rows.map elK) :: (edM cur ++ famM eU8 (rows.map elK))
abbrev fsM (w : WayT) (l : LnT) (NEW : Mem) : Mem := blk (wayT w []) :: blk (lnT l []) :: rzB :: cdB :: (NEW ++ [ownB eU8 [], lbB 4 0 l.rows.length l.rows.length l.cur l.t l.n])
theorem s_impl_RL_walk (w : WayT) (l : LnT) (n : Nat) (hl : l.small) (hf : askF w l = 0) (hn : inB n 1 99 = true) (hr : l.rows ≠ []) : X_impl_ReadLine (rlA w l n) [] = bo (fun r29 => bo (fun r30 => cutK 0 r30.2 (rlA w l n) [.int .i64 n, ptr 0, ptr 2, ptr ((nwM l.cur l.rows).length + 1 + 1 + 1 + 1 + 1), r30.1] (L_impl_ReadLine 0 QQ 0)) (apL r29.2 1 1 (slO ((nwM l.cur l.rows).length + 1 + 1 + 1 + 1) 0) r29.1)) (rcall X_impl_Line_next [ptr ((nwM l.cur l.rows).length + 1 + 1 + 1 + 1 + 1), .int .i64 n] (fsM w l (nwM l.cur l.rows))) := by
  obtain ⟨h1, h2⟩ := askF0 hf
  obtain ⟨h40, _⟩ := line_small40 hf
  have fW : ∀ mm, fcall X_impl_WayFault [wayV w] mm = some (.int .i64 0, mm) := fun mm => f_ask (fr := [wayV w]) (by simp) (by rw [← h1]; exact s_impl_WayFault w) rfl
  have fL : ∀ mm, fcall X_impl_LineFault [lnV l] mm = some (.int .i64 0, mm) := fun mm => f_ask (fr := [lnV l]) (by simp) (by rw [← h2]; exact s_impl_LineFault l hl) rfl
  have fI : ∀ mm, fcall X_impl_in [.int .i64 n, .int .i64 1, .int .i64 99] mm = some (.bool true, mm) := fun mm => f_ask (fr := [.int .i64 n, .int .i64 1, .int .i64 99]) (by simp) (by rw [← hn]; exact s_impl_in _ _ _) rfl
  have fU : ∀ mm, fcall X_impl_unless [.bool true, .int .i64 3] mm = some (.int .i64 0, mm) := fun mm => f_ask (fr := [.bool true, .int .i64 3]) (by simp) (s_impl_unless true 3) rfl
  have fF : ∀ b0 b1 b2, fcall X_impl_first [slO 3 3] [b0, b1, b2, ⟨[.int .i64 0, .int .i64 0, .int .i64 0], 1, true, true⟩] = some (.int .i64 0, [b0, b1, b2, ⟨[.int .i64 0, .int .i64 0, .int .i64 0], 1, true, true⟩]) := fun b0 b1 b2 => f_ask (fr := [frS eI6 [0, 0, 0]]) (by simp) (s_impl_first3 0 0 0) rfl
  have hcl : ∀ b0 b1 b2 b3, fcall X_impl_Line_clone [lnV l] [b0, b1, b2, b3] = some (.agg #[slO 4 l.rows.length, edV 5 l.cur, .bool l.t, .int .i64 l.n], b0 :: b1 :: b2 :: b3 :: nwM l.cur l.rows) := fun b0 b1 b2 b3 => f_clone [b0, b1, b2, b3] (lnV l) l (by simp) (by omega) hl.2.1 hl.2.2
  generalize hNW : nwM l.cur l.rows = NEW at *
  have fe : ∀ k, flat (edV k l.cur) = true := fun k => by unfold edV; split <;> rfl
  simp (maxSteps := 400000) -implicitDefEqProofs [-fcall_eq, -rcall_eq, X_impl_ReadLine, fW, fL, fI, fU, fF, hcl, fe, hr]
  rfl
end Go.Ab
namespace Go.Ab
set_option linter.unusedSimpArgs false
set_option linter.unusedVariables false
set_option maxHeartbeats 4000000

theorem fs_get (w : WayT) (l : LnT) (NEW : Mem) (i : Nat) (hi : i < NEW.length) : (fsM w l NEW)[4 + i]? = NEW[i]? := by
  rw [show 4 + i = i + 1 + 1 + 1 + 1 by omega]
  simp only [fsM, List.getElem?_cons_succ]
  exact List.getElem?_append_left hi
theorem fs_tail (w : WayT) (l : LnT) (NEW : Mem) : (fsM w l NEW)[NEW.length + 4]? = some (ownB eU8 []) ∧ (fsM w l NEW)[NEW.length + 5]? = some (lbB 4 0 l.rows.length l.rows.length l.cur l.t l.n) := by
  constructor
  · simp only [fsM, List.getElem?_cons_succ]
    rw [List.getElem?_append_right (Nat.le_refl _), Nat.sub_self]; rfl
  · simp only [fsM, List.getElem?_cons_succ]
    rw [List.getElem?_append_right (by omega), Nat.add_sub_cancel_left]; rfl
theorem RL_first (w : WayT) (l : LnT) (n : Nat) (hl : l.small) (hf : askF w l = 0) (hn : inB n 1 99 = true) (hr : l.rows ≠ []) (a' len' c' : Nat) (es' : List (El Int)) (hok' : ∀ e ∈ es', e.ok eU8) (hN : famN es' = famN (l.rows.map elK)) (hM : famM eU8 es' = famM eU8 (l.rows.map elK)) (v v' : Value) (yv : List Int)
    (hv : (v = roS 0 [] ∧ v' = roS 0 []) ∨ ∃ j k cc, j < famN (l.rows.map elK) ∧ v = slQ (2 + (edM l.cur).length + j) 0 k cc ∧ v' = slQ (4 + 1 + (edM l.cur).length + j) 0 k cc)
    (hX : X_impl_Line_next [ptr 0, .int .i64 n] (lbB 1 0 l.rows.length l.rows.length l.cur l.t l.n :: famB (2 + (edM l.cur).length) 1 (l.rows.map elK) :: (edM l.cur ++ famM eU8 (l.rows.map elK))) = some (v, lbB 1 a' len' c' l.cur l.t l.n :: famB (2 + (edM l.cur).length) 1 es' :: (edM l.cur ++ famM eU8 es')))
    (hap : ∀ mm : Mem, mm[(nwM l.cur l.rows).length + 4]? = some (ownB eU8 []) → (∀ i, i < famN (l.rows.map elK) → mm[5 + (edM l.cur).length + i]? = (famM eU8 (l.rows.map elK))[i]?) → apL mm 1 1 (slO ((nwM l.cur l.rows).length + 4) 0) v' = some (slO mm.length yv.length, mm.set ((nwM l.cur l.rows).length + 4) ⟨[], 1, true, false⟩ ++ [ownB eU8 yv])) :
    X_impl_ReadLine (rlA w l n) [] = L_impl_ReadLine 0 QQ 0 [.int .i64 n, ptr 0, ptr 1, ptr 2, slO 3 yv.length] (rlM w l.cur yv l.t l.n a' len' c' es') := by
  have hE := edM_le l.cur
  obtain ⟨h40, _⟩ := line_small40 hf
  have hN2 := famN_K l.rows
  have hlen : (nwM l.cur l.rows).length = 1 + (edM l.cur).length + famN (l.rows.map elK) := by simp; omega
  obtain ⟨t1, t2⟩ := fs_tail w l (nwM l.cur l.rows)
  have hAt : LineAt (fsM w l (nwM l.cur l.rows)) ((nwM l.cur l.rows).length + 5) 4 0 l.rows.length l.rows.length l.cur l.t l.n (l.rows.map elK) := ⟨⟨fun i x h => by
    have hi := (List.getElem?_eq_some_iff.1 h).1
    rw [fs_get w l _ i hi]
    exact h, ok_K _⟩, t2⟩
  have hc := rcall_lineG hAt (.inr (by omega)) a' len' c' n es' hok' hN hM (by omega) v v' hv hX
  rw [s_impl_RL_walk w l n hl hf hn hr]
  show bo _ (rcall X_impl_Line_next [ptr ((nwM l.cur l.rows).length + 5), .int .i64 n] (fsM w l (nwM l.cur l.rows))) = _
  rw [hc, bo_some]
  generalize hMM : ((fsM w l (nwM l.cur l.rows)).set ((nwM l.cur l.rows).length + 5) (lbB 4 a' len' c' l.cur l.t l.n)).set 4 (famB (4 + 1 + (edM l.cur).length) 1 es') = MM
  have hfl : (fsM w l (nwM l.cur l.rows)).length = (nwM l.cur l.rows).length + 6 := by simp; omega
  have get : ∀ i, i ≠ 4 → i ≠ (nwM l.cur l.rows).length + 5 → MM[i]? = (fsM w l (nwM l.cur l.rows))[i]? := fun i q1 q2 => by
    rw [← hMM, List.getElem?_set_ne (by omega), List.getElem?_set_ne (by omega)]
  have hML : MM.length = (nwM l.cur l.rows).length + 6 := by rw [← hMM, List.length_set, List.length_set, hfl]
  have hap := hap MM (by rw [get _ (by omega) (by omega)]; exact t1) (fun i hi => by
    rw [get _ (by omega) (by omega), show 5 + (edM l.cur).length + i = 4 + (1 + (edM l.cur).length + i) by omega, fs_get _ _ _ _ (by omega)]
    show (famB (5 + (edM l.cur).length) 1 (l.rows.map elK) :: (edM l.cur ++ famM eU8 (l.rows.map elK)))[1 + (edM l.cur).length + i]? = _
    rw [show 1 + (edM l.cur).length + i = (edM l.cur).length + i + 1 by omega, List.getElem?_cons_succ, List.getElem?_append_right (by omega), Nat.add_sub_cancel_left])
  show bo _ (apL MM 1 1 (slO ((nwM l.cur l.rows).length + 4) 0) v') = _
  rw [hap, bo_some]
  have get2 : ∀ i, i ≠ (nwM l.cur l.rows).length + 4 → i < MM.length → (MM.set ((nwM l.cur l.rows).length + 4) ⟨[], 1, true, false⟩ ++ [ownB eU8 yv])[i]? = MM[i]? := fun i q1 q2 => by
    rw [List.getElem?_append_left (by rw [List.length_set]; exact q2), List.getElem?_set_ne (by omega)]
  refine cut_line (wb := blk (wayT w [])) (rb := rzB) (b := (nwM l.cur l.rows).length + 5) (y := MM.length) (o := 4) (out := yv) ⟨⟨fun i x h => ?_, hok'⟩, ?_⟩ ?_ rfl ?_ rfl ?_ (by omega) ?_
  · have hi := (List.getElem?_eq_some_iff.1 h).1
    have hi2 : i < 1 + (edM l.cur).length + famN (l.rows.map elK) := by simp at hi; omega
    rw [get2 _ (by omega) (by omega)]
    cases i with
    | zero =>
      rw [← hMM, Nat.add_zero, List.getElem?_set_self (by rw [List.length_set, hfl]; omega)]
      exact h
    | succ i =>
      rw [get _ (by omega) (by omega), fs_get _ _ _ _ (by omega)]
      rw [List.getElem?_cons_succ, hM] at h
      exact h
  · rw [get2 _ (by omega) (by omega), ← hMM, List.getElem?_set_ne (by omega), List.getElem?_set_self (by rw [hfl]; omega)]
  · rw [get2 _ (by omega) (by omega), get _ (by omega) (by omega)]; rfl
  · rw [get2 _ (by omega) (by omega), get _ (by omega) (by omega)]; rfl
  · rw [List.getElem?_append_right (by rw [List.length_set]; omega), List.length_set, Nat.sub_self]; rfl
  · rw [hN]
    refine List.nodup_cons.2 ⟨fun h => ?_, List.nodup_cons.2 ⟨fun h => ?_, List.nodup_cons.2 ⟨fun h => ?_, List.nodup_cons.2 ⟨fun h => ?_, List.nodup_range'⟩⟩⟩⟩
    · simp only [List.mem_cons, mem_range'] at h; omega
    · simp only [List.mem_cons, mem_range'] at h; omega
    · simp only [List.mem_cons, mem_range'] at h; omega
    · rw [mem_range'] at h; omega
end Go.Ab
namespace Go.Ab
set_option linter.unusedSimpArgs false
set_option linter.unusedVariables false
set_option maxHeartbeats 4000000

/-! ## ReadLine of the program -/
theorem s_impl_RL (w : WayT) (l : LnT) (n : Nat) (hl : l.small) (hf : askF w l = 0) (hn : inB n 1 99 = true) (hr : l.rows ≠ []) (hb : ∀ x ∈ l.rows, x.length < 1000000) : X_impl_ReadLine (rlA w l n) [] = RES l.cur l.t l.n (rdS (cnB w) n [] l.rows) := by
  obtain ⟨h40, _⟩ := line_small40 hf
  have hn1 : 1 ≤ n ∧ n ≤ 99 := by simp [inB] at hn; omega
  obtain ⟨q, hq⟩ : ∃ q, QQ = q + 1 := ⟨QQ - 1, by unfold QQ; omega⟩
  have hqq : 1000 < q := by unfold QQ at hq; omega
  obtain ⟨rows, cur, t, m⟩ := l
  have hcu : cur.length < 1000000000 := hl.2.2
  have hFi := fun (a' len' c' : Nat) (es' : List (El Int)) => RL_first w ⟨rows, cur, t, m⟩ n hl hf hn hr a' len' c' es'
  cases rows with
  | nil => exact absurd rfl hr
  | cons x r =>
    simp only at *
    have hbx := hb x (by simp)
    have hLa : ∀ k, (famX k ([] : List (El Int))).length = 0 := fun k => rfl
    have hl' : r.length + 1 ≤ 40 := h40
    have hN2 := famN_K r
    have hcnv : ∀ (yv : List Int) (es' : List (El Int)), True := fun _ _ => trivial
    by_cases hx : x = []
    · subst hx
      have s0 := s_next0 0 r.length n cur t m [] (r.map elK) (by simp) (ok_K r) hLa (by omega) (by simp [famN]; omega) (by omega)
      unfold lbV at s0
      have etl : tlS 1 0 r.length = slQ 1 (if r = [] then 0 else 0 + 1) r.length r.length := tlS_eq 1 [] r []
      rw [etl] at s0
      have ok1 : ∀ e ∈ elU [] :: r.map elK, e.ok eU8 := okUK [[]] r
      have h := hFi (if r = [] then 0 else 0 + 1) r.length r.length (elU [] :: r.map elK) ok1 rfl rfl (roS 0 []) (roS 0 []) [] (.inl ⟨rfl, rfl⟩) s0 (fun mm g1 g2 => by
        have p1 := apL_frS (E := eU8) (m := mm) (sz := 1) (bytes := 1) (n := (nwM cur ([] :: r)).length + 4) (o := 0) (len := 0) (c := 0) (l := []) rfl (by simp) (by omega)
        have p1' : apL mm 1 1 (slO ((nwM cur ([] :: r)).length + 4) 0) (roS 0 []) = _ := p1
        rw [p1', g1]
        exact apB_own (E := eU8) (m := mm) (l := []) (n := (nwM cur ([] :: r)).length + 4) (sz := 1) (cs := cellsE eU8 []) (k := 0) rfl)
      have er : rdS (cnB w) n [] ([] :: r) = if cnB w = true then ([], r) else rdS (cnB w) n [] r := by
        rw [rdS, if_pos (by simp; omega), if_neg (by simp)]
        rfl
      rw [h, er]
      by_cases hc : cnB w = true
      · rw [if_pos hc, hq]
        have hz := fz_rl w cur [] t m r.length [elU []] (r.map elK) r (ok_K r) (sz_U [[]]) (sz_K r) (by simp) (fro_K r) (if r = [] then 0 else 0 + 1) (by cases r <;> simp)
        exact rl_exit rfl rfl rfl rfl hz (show r.length < 1000000 by omega) (fun y hy => by have := hb y (by simp [hy]); omega) hcu (.inl hc)
      · have hcf : cnB w = false := by simpa using hc
        rw [if_neg hc, hcf]
        have h2 := l_RL w cur t m n hn1.2 hcf hcu r [[]] [] QQ (by unfold QQ; omega) (by simp; omega) (fun y hy => hb y (by simp [hy])) (by simp)
        exact h2
    · obtain ⟨m1, m2, m3⟩ := famM_UH x n hx
      have nU : (elU x).p.n = 1 := by unfold elU; simp [hx, Pc.n]
      have nK : (elK x).p.n = 1 := by unfold elK; simp [hx, Pc.n]
      have hNx : famN ((x :: r).map elK) = 1 + famN (r.map elK) := by rw [List.map_cons, famN, nK]
      have hget : ∀ (mm : Mem) , (∀ i, i < famN ((x :: r).map elK) → mm[5 + (edM cur).length + i]? = (famM eU8 ((x :: r).map elK))[i]?) → mm[4 + 1 + (edM cur).length + 0]? = some (ownB eU8 x) := fun mm g => by
        have := g 0 (by omega)
        rw [List.map_cons, famM, m3] at this
        exact this
      by_cases h2 : n < x.length
      · have s2 := s_next2 0 r.length n cur t m x hx hbx h2 (by omega) [] (r.map elK) (by simp) (ok_K r) hLa (by omega) (by simp [famN]; omega) (by omega)
        have okH : ∀ e ∈ elH x n :: r.map elK, e.ok eU8 := by
          intro e he
          rcases List.mem_cons.1 he with rfl | h
          · exact elH_ok x _ h2
          · exact ok_K r e h
        have h := hFi 0 (r.length + 1) (r.length + 1) (elH x n :: r.map elK) okH (by rw [hNx]; rfl) (by rw [List.map_cons, famM, famM, m2, m3]) _ (slQ (4 + 1 + (edM cur).length + 0) 0 n x.length) (x.take n) (.inr ⟨0, n, x.length, by omega, rfl, rfl⟩) s2 (fun mm g1 g2 => ap_partG mm _ _ n x.length [] x g1 (hget mm g2) (by omega) (by simp; omega))
        have hz := fz_rl w cur (x.take n) t m (r.length + 1) [] (elH x n :: r.map elK) (x.drop n :: r) okH (by simp) (fun e he => by
          rcases List.mem_cons.1 he with rfl | he
          · rfl
          · exact sz_K r e he) (by simp) (by rw [List.flatMap_cons, fro_H, fro_K]; rfl) 0 (.inr rfl)
        have er : rdS (cnB w) n [] (x :: r) = (x.take n, x.drop n :: r) := by
          rw [rdS, if_pos (by simp; omega), if_pos (by simpa using h2)]
          rfl
        rw [h, er, hq]
        exact rl_exit rfl rfl rfl rfl hz (by simp; omega) (fun y hy => by
          rcases List.mem_cons.1 hy with rfl | hy
          · simp; omega
          · have := hb y (by simp [hy]); omega) hcu (.inr (.inr (by simp; omega)))
      · have s1 := s_next1 0 r.length n cur t m x hx hbx (by omega) [] (r.map elK) (by simp) (ok_K r) hLa (by omega) (by simp [famN]; omega) (by omega)
        unfold lbV at s1
        have etl : tlS 1 0 r.length = slQ 1 (if r = [] then 0 else 0 + 1) r.length r.length := tlS_eq 1 [] r x
        rw [etl] at s1
        have ok1 : ∀ e ∈ elU x :: r.map elK, e.ok eU8 := okUK [x] r
        have h := hFi (if r = [] then 0 else 0 + 1) r.length r.length (elU x :: r.map elK) ok1 (by rw [hNx, famN, nU]) (by rw [List.map_cons, famM, famM, m1, m3]) _ (slQ (4 + 1 + (edM cur).length + 0) 0 x.length x.length) x (.inr ⟨0, x.length, x.length, by omega, rfl, rfl⟩) s1 (fun mm g1 g2 => by
          have := ap_partG mm _ _ x.length x.length [] x g1 (hget mm g2) (Nat.le_refl _) (by simp; omega)
          rw [List.take_of_length_le (Nat.le_refl _)] at this
          exact this)
        have er : rdS (cnB w) n [] (x :: r) = if cnB w = true then (x, r) else rdS (cnB w) n x r := by
          rw [rdS, if_pos (by simp; omega), if_neg (by simpa using h2)]
          rfl
        rw [h, er]
        by_cases hc : cnB w = true
        · rw [if_pos hc, hq]
          have hz := fz_rl w cur x t m r.length [elU x] (r.map elK) r (ok_K r) (sz_U [x]) (sz_K r) (by simp) (fro_K r) (if r = [] then 0 else 0 + 1) (by cases r <;> simp)
          exact rl_exit rfl rfl rfl rfl hz (show r.length < 1000000 by omega) (fun y hy => by have := hb y (by simp [hy]); omega) hcu (.inl hc)
        · have hcf : cnB w = false := by simpa using hc
          rw [if_neg hc, hcf]
          have h3 := l_RL w cur t m n hn1.2 hcf hcu r [x] x QQ (by unfold QQ; omega) (by simp; omega) (fun y hy => hb y (by simp [hy])) (by omega)
          exact h3
end Go.Ab
namespace Go.Ab
set_option linter.unusedSimpArgs false
set_option linter.unusedVariables false
set_option maxHeartbeats 4000000

/-! ## ReadLine of the program: its answer as a thing -/
theorem has_line {mm : Mem} {y o k n : Nat} {cur out : List Int} {t : Bool} {m : Int} {es : List (El Int)} (H : LineSeg mm o cur es) (hy : mm[y]? = some (ownB eU8 out)) (hyo : y < o ∨ o + (1 + (edM cur).length + famN es) ≤ y) (hn : famN es < 4000000) : Has mm (lrV 0 true (slO y n) nilW (slO o k) (edV (o + 1) cur) t m) ([y] ++ List.range' o (1 + (edM cur).length + famN es)) (lrV 0 true (slO 0 n) nilW (slO 1 k) (edV 2 cur) t m) (ownB eU8 out :: famB (2 + (edM cur).length) 1 es :: (edM cur ++ famM eU8 es)) := by
  have hE := edM_le cur
  have hnd : ([y] ++ List.range' o (1 + (edM cur).length + famN es)).Nodup := List.nodup_cons.2 ⟨fun h => by have h : y ∈ List.range' o (1 + (edM cur).length + famN es) := h; rw [mem_range'] at h; omega, List.nodup_range'⟩
  have l2 := H.loc2 [y] hnd
  have hix := ix_line hnd
  have h1 : reachF 4194304 mm (y :: List.range' o (1 + (edM cur).length)) [] = some ([y] ++ List.range' o (1 + (edM cur).length + famN es)) := by
    obtain ⟨K, hK⟩ : ∃ K, (4194304 : Nat) = K + 1 := ⟨4194303, rfl⟩
    rw [hK, reach_one hy (by simp) (nmB_own eU8 out), List.append_nil]
    exact H.reach [y] _ (fun x hx => by simp at hx; omega) (by omega)
  have h2 : locM mm ([y] ++ List.range' o (1 + (edM cur).length + famN es)) ([y] ++ List.range' o (1 + (edM cur).length + famN es)) = some (ownB eU8 out :: famB (2 + (edM cur).length) 1 es :: (edM cur ++ famM eU8 es)) := by
    have e : [y].length + 1 + (edM cur).length = 2 + (edM cur).length := rfl
    rw [e] at l2
    show locM mm _ (y :: List.range' o (1 + (edM cur).length + famN es)) = _
    rw [loc_one hy (locB_own eU8 _ out), l2]
    rfl
  have i0 := hix 0 (by omega)
  have iy : ixOf ([y] ++ List.range' o (1 + (edM cur).length + famN es)) y = some 0 := by simp
  refine has_of ?_ h2 ?_
  · rw [← h1, ← nm_edV]
    simp
  · generalize [y] ++ List.range' o (1 + (edM cur).length + famN es) = RR at *
    unfold edV
    by_cases hd : cur = []
    · simp at i0
      simp [hd, i0, iy]
    · have i1 := hix 1 (by unfold edM; rw [if_neg hd]; simp; omega)
      simp at i0
      simp [hd, i0, i1, iy]
abbrev raM (O cur : List Int) (R : List (List Int)) : Mem := ownB eU8 O :: famB (2 + (edM cur).length) 1 (R.map elK) :: (edM cur ++ famM eU8 (R.map elK))
theorem raM_seg (O cur : List Int) (R : List (List Int)) : LineSeg (raM O cur R) 1 cur (R.map elK) := ⟨fun i x h => by
  rw [Nat.add_comm]
  exact h, ok_K R⟩
theorem can_ra (O cur : List Int) (t : Bool) (m : Int) (R : List (List Int)) (hR : R.length < 1000000) : Can (lrV 0 true (slO 0 O.length) nilW (slO 1 R.length) (edV 2 cur) t m) (raM O cur R) := by
  have hN := famN_K R
  have h := has_line (n := O.length) (k := R.length) (t := t) (m := m) (raM_seg O cur R) (y := 0) (out := O) rfl (by omega) (by omega)
  have e : ([0] ++ List.range' 1 (1 + (edM cur).length + famN (R.map elK))) = List.range (raM O cur R).length := by
    have : (raM O cur R).length = (1 + (edM cur).length + famN (R.map elK)) + 1 := by simp; omega
    rw [this, List.range_eq_range', List.range'_succ]
    rfl
  rw [e] at h
  exact h
end Go.Ab
namespace Go.Ab
set_option linter.unusedSimpArgs false
set_option linter.unusedVariables false
set_option maxHeartbeats 4000000

theorem hd_ra (O cur : List Int) (R : List (List Int)) : HdM (raM O cur R) := by
  intro N
  refine mapB_mk fun i b hb => ?_
  have hm := List.mem_of_getElem? hb
  have hlen : (raM O cur R).length = 2 + (edM cur).length + famN (R.map elK) := by simp; omega
  rcases List.mem_cons.1 hm with rfl | hm
  · exact ⟨_, shB_own eU8 eU8_hard _ _ O⟩
  · rcases List.mem_cons.1 hm with rfl | hm
    · have hr := fam_rnH eU8 (j := 7) (π := sft N (raM O cur R).length) (R.map elK) (2 + (edM cur).length) (N + (2 + (edM cur).length)) (ok_K R) (okH_K R) (fun i hi => by unfold sft; rw [if_pos (by omega)]; congr 1; omega)
      unfold shB famB
      rw [if_pos ⟨rfl, rfl⟩]
      split
      · exact ⟨_, rfl⟩
      · exact ⟨_, by rw [hr]; rfl⟩
    · obtain ⟨j, hj, rfl⟩ := List.getElem_of_mem hm
      obtain ⟨x, e⟩ := own_all cur (R.map elK) j hj
      rw [List.getElem?_eq_getElem hj] at e
      rw [Option.some.inj e]
      exact ⟨_, shB_own eU8 eU8_hard _ _ x⟩
theorem rn_ra (O cur : List Int) (t : Bool) (m : Int) (R : List (List Int)) (n k N : Nat) : rnV 8 hard (sft N (raM O cur R).length) (lrV 0 true (slO 0 n) nilW (slO 1 k) (edV 2 cur) t m) = some (lrV 0 true (slO N n) nilW (slO (N + 1) k) (edV (N + 2) cur) t m) := by
  have hlen : (raM O cur R).length = 2 + (edM cur).length + famN (R.map elK) := by simp; omega
  rw [hlen]
  have h0 : 0 < 2 + (edM cur).length + famN (R.map elK) := by omega
  have h1 : 1 < 2 + (edM cur).length + famN (R.map elK) := by omega
  unfold edV
  by_cases hd : cur = []
  · generalize 2 + (edM cur).length + famN (R.map elK) = LL at *
    simp [hd, h0, h1]
  · have e1 : (edM cur).length = 1 := by unfold edM; rw [if_neg hd]; rfl
    have h2 : 2 < 2 + (edM cur).length + famN (R.map elK) := by omega
    generalize 2 + (edM cur).length + famN (R.map elK) = LL at *
    simp [hd, h0, h1, h2]
theorem fz_ra (O cur : List Int) (t : Bool) (m : Int) (R : List (List Int)) : fz 64 (raM O cur R) (lrV 0 true (slO 0 O.length) nilW (slO 1 R.length) (edV 2 cur) t m) = some (lrV 0 true (frS eU8 O) (roS 0 []) (frS eBS R) (frS eU8 cur) t m) := by
  have f1 : fz 63 (raM O cur R) (slO 0 O.length) = some (frS eU8 O) := by simp
  have f2 : fz 63 (raM O cur R) (slO 1 R.length) = some (frS eBS R) := by
    have := fz_partF (k := 60) (c := R.length) (j := 1) (b := 2 + (edM cur).length) (mm := raM O cur R) (P := ownB eU8 O :: famB (2 + (edM cur).length) 1 (R.map elK) :: edM cur) (Q := []) (L := []) (R := R.map elK) rfl (by simp) (by simp [famN]; omega) (ok_K R) (by simp) (sz_K R)
    rw [List.length_map, fro_K] at this
    exact this
  have f3 := fz_edV (raM O cur R) 2 cur (fun hd => by
    have e1 : edM cur = [ownB eU8 cur] := by unfold edM; rw [if_neg hd]
    simp only [raM, List.getElem?_cons_succ]
    rw [e1]
    rfl)
  rw [fz_agg]
  simp only [mapO, f1, f2, f3]
  rfl
end Go.Ab
namespace Go.Ab
set_option linter.unusedSimpArgs false
set_option linter.unusedVariables false
set_option maxHeartbeats 4000000

/-! ## Lines of the law: their copy -/
theorem s_toLine (l : LnT) (hl : l.rows.length < 1100000) (hb : ∀ x ∈ l.rows, x.length < 1000000000) (hc : l.cur.length < 1000000000) : X_laws_toLine [lnV l] [] = some (.agg #[slO 0 l.rows.length, slO 1 l.cur.length, .bool l.t, .int .i64 l.n], famB 2 1 (l.rows.map elS) :: ownB eU8 l.cur :: famM eU8 (l.rows.map elS)) := by
  have c1 := s_toByteSS l.rows (by omega) hb
  rw [memS_0] at c1
  have c2 := s_toByteS l.cur hc
  have fS : ∀ b0 b1 b2, fcall X_laws_toByteSS [frS eBS l.rows] [b0, b1, b2] = some (slO 3 l.rows.length, b0 :: b1 :: b2 :: memA 4 l.rows) := by
    intro b0 b1 b2
    exact f_toByteSS l.rows (by omega) hb [b0, b1, b2]
  have fT : ∀ mm, fcall X_laws_toByteS [frS eU8 l.cur] mm = some (slO mm.length l.cur.length, mm ++ [ownB eU8 l.cur]) := by
    intro mm
    simp [c2]
  have hN : famN (l.rows.map elS) = l.rows.length := elS_N l.rows
  have hok : ∀ e ∈ l.rows.map elS, e.ok eU8 := by
    intro e he
    obtain ⟨x, _, rfl⟩ := List.mem_map.1 he
    exact elS_ok x
  have hF : (famM eU8 (l.rows.map elS)).length = famN (l.rows.map elS) := famM_len eU8 _
  have hret : ∀ (b0 b1 b2 : Blk) pv, retK 0 (b0 :: b1 :: b2 :: famB 4 1 (l.rows.map elS) :: (famM eU8 (l.rows.map elS) ++ [ownB eU8 l.cur])) pv (.agg #[slO 3 l.rows.length, slO (famN (l.rows.map elS) + 1 + 1 + 1 + 1) l.cur.length, .bool l.t, .int .i64 l.n]) = some (.agg #[slO 0 l.rows.length, slO 1 l.cur.length, .bool l.t, .int .i64 l.n], famB 2 1 (l.rows.map elS) :: ownB eU8 l.cur :: famM eU8 (l.rows.map elS)) := by
    intro b0 b1 b2 pv
    have H : Fam eU8 (b0 :: b1 :: b2 :: famB 4 1 (l.rows.map elS) :: (famM eU8 (l.rows.map elS) ++ [ownB eU8 l.cur])) 3 1 (List.range' 4 (famN (l.rows.map elS))) (l.rows.map elS) := Fam.of_row eU8 rfl (fun i x h => by
      have := in_row [b0, b1, b2, famB 4 1 (l.rows.map elS)] (famM eU8 (l.rows.map elS)) [ownB eU8 l.cur] (b := 4) (k := i + 1) (i := i) (n := 4 + i) rfl (by rw [List.getElem?_range' (by omega)]; simp) h
      exact this) (by omega) hok
    have hy := at_row [b0, b1, b2, famB 4 1 (l.rows.map elS)] (famM eU8 (l.rows.map elS)) [ownB eU8 l.cur] (n := famN (l.rows.map elS) + 1 + 1 + 1 + 1) (j := 0) (by simp [hF]; omega) rfl
    obtain ⟨c1, c2⟩ := H.can1y eU8 eU8 (y := famN (l.rows.map elS) + 1 + 1 + 1 + 1) (l := l.cur) hy (by
      refine List.nodup_cons.2 ⟨fun h => ?_, List.nodup_cons.2 ⟨fun h => ?_, List.nodup_range'⟩⟩
      · rcases List.mem_cons.1 h with h | h
        · omega
        · rw [mem_range'] at h; omega
      · rw [mem_range'] at h; omega) (by simp; omega)
    exact ret_of c1 c2 (by simp) (by simp)
  simp (maxSteps := 400000) -implicitDefEqProofs [-fcall_eq, -rcall_eq, X_laws_toLine, fS, fT, hret]
end Go.Ab
namespace Go.Ab
set_option linter.unusedSimpArgs false
set_option linter.unusedVariables false
set_option maxHeartbeats 4000000

abbrev tlW (k : Nat) (l : LnT) : Value := .agg #[slO k l.rows.length, slO (k + 1) l.cur.length, .bool l.t, .int .i64 l.n]
abbrev tlM (l : LnT) : Mem := famB 2 1 (l.rows.map elS) :: ownB eU8 l.cur :: famM eU8 (l.rows.map elS)
theorem ok_S1 (l : List (List Int)) : ∀ e ∈ l.map elS, e.ok eU8 := by
  intro e he
  obtain ⟨x, _, rfl⟩ := List.mem_map.1 he
  exact elS_ok x
theorem can_tl (l : LnT) (hl : l.rows.length < 1100000) : Can (tlW 0 l) (tlM l) := by
  have hN : famN (l.rows.map elS) = l.rows.length := elS_N l.rows
  have hlen : (tlM l).length = famN (l.rows.map elS) + 1 + 1 := by simp
  have H : Fam eU8 (tlM l) 0 1 (List.range' 2 (famN (l.rows.map elS))) (l.rows.map elS) := Fam.of_row eU8 rfl (fun i x h => by
    rw [show 2 + i = i + 1 + 1 by omega]
    exact h) (by omega) (ok_S1 _)
  obtain ⟨h1, h2⟩ := H.can1y eU8 eU8 (y := 1) (l := l.cur) rfl (by
    refine List.nodup_cons.2 ⟨fun h => ?_, List.nodup_cons.2 ⟨fun h => ?_, List.nodup_range'⟩⟩
    · rcases List.mem_cons.1 h with h | h
      · omega
      · rw [mem_range'] at h; omega
    · rw [mem_range'] at h; omega) (by simp; omega)
  have e : (0 :: 1 :: List.range' 2 (famN (l.rows.map elS))) = List.range (tlM l).length := by
    rw [hlen, List.range_eq_range', List.range'_succ, List.range'_succ]
  rw [e] at h1 h2
  exact has_of (by simpa using h1) h2 (by rw [← e]; simp)
theorem hd_tl (l : LnT) : HdM (tlM l) := by
  intro N
  refine mapB_mk fun i b hb => ?_
  have hm := List.mem_of_getElem? hb
  have hlen : (tlM l).length = famN (l.rows.map elS) + 1 + 1 := by simp
  rcases List.mem_cons.1 hm with rfl | hm
  · have hr := fam_rnH eU8 (j := 7) (π := sft N (tlM l).length) (l.rows.map elS) 2 (N + 2) (ok_S1 _) (okH_A l.rows) (fun i hi => by unfold sft; rw [if_pos (by omega)]; congr 1; omega)
    unfold shB famB
    rw [if_pos ⟨rfl, rfl⟩]
    split
    · exact ⟨_, rfl⟩
    · exact ⟨_, by rw [hr]; rfl⟩
  · rcases List.mem_cons.1 hm with rfl | hm
    · exact ⟨_, shB_own eU8 eU8_hard _ _ l.cur⟩
    · obtain ⟨j, hj, rfl⟩ := List.getElem_of_mem hm
      obtain ⟨x, e⟩ := fam_own eU8 (l.rows.map elS) j _ (List.getElem?_eq_getElem hj)
      rw [e]
      exact ⟨_, shB_own eU8 eU8_hard _ _ x⟩
theorem rn_tl (l : LnT) (N : Nat) : rnV 8 hard (sft N (tlM l).length) (tlW 0 l) = some (tlW N l) := by
  have hlen : (tlM l).length = famN (l.rows.map elS) + 2 := by simp
  rw [hlen]
  have h1 : 1 < famN (l.rows.map elS) + 2 := by omega
  generalize famN (l.rows.map elS) + 2 = LL at *
  have h0 : 0 < LL := by omega
  simp [h0, h1]
end Go.Ab
namespace Go.Ab
set_option linter.unusedSimpArgs false
set_option linter.unusedVariables false
set_option maxHeartbeats 4000000

theorem fro_S (r : List (List Int)) : (r.map elS).flatMap (El.fro eU8) = cellsE eBS r := by
  induction r with
  | nil => rfl
  | cons x r ih =>
    have e : El.fro eU8 (elS x) = [frS eU8 x] := rfl
    rw [List.map_cons, List.flatMap_cons, e, ih, cellsE_cons]
    rfl
theorem fz_tl (l : LnT) : fz 64 (tlM l) (tlW 0 l) = some (lnV l) := by
  have f1 : fz 63 (tlM l) (slO 0 l.rows.length) = some (frS eBS l.rows) := by
    have := fz_partF (k := 60) (c := l.rows.length) (j := 0) (b := 2) (mm := tlM l) (P := [famB 2 1 (l.rows.map elS), ownB eU8 l.cur]) (Q := []) (L := []) (R := l.rows.map elS) rfl (by simp) (by simp [famN]) (ok_S1 _) (by simp) (fun e he => by
      obtain ⟨x, _, rfl⟩ := List.mem_map.1 he
      rfl)
    rw [List.length_map, fro_S] at this
    exact this
  have f2 : fz 63 (tlM l) (slO 1 l.cur.length) = some (frS eU8 l.cur) := by simp
  rw [fz_agg]
  simp only [mapO, f1, f2]
  rfl
theorem fz_ln (l : LnT) (m : Mem) : fz 64 m (lnV l) = some (lnV l) := by simp
theorem n_toLine (l : LnT) (hl : l.rows.length < 1100000) (hb : ∀ x ∈ l.rows, x.length < 1000000000) (hc : l.cur.length < 1000000000) (m : Mem) : ∃ k m', k = m.length ∧ fcall X_laws_toLine [lnV l] m = some (tlW k l, m') ∧ m'.length = m.length + (tlM l).length ∧ (∀ n, n < m.length → m'[n]? = m[n]?) ∧ Has m' (tlW k l) (List.range' k (tlM l).length) (tlW 0 l) (tlM l) :=
  Has.new (X := X_laws_toLine) (fr := [lnV l]) (F := fun k => tlW k l) (mapO1 (fz_ln l m)) (s_toLine l hl hb hc) (can_tl l hl) (hd_tl l) (fun N => rn_tl l N)
end Go.Ab
namespace Go.Ab
set_option linter.unusedSimpArgs false
set_option linter.unusedVariables false
set_option maxHeartbeats 4000000

theorem s_eqLine (l : LnT) (hl : l.small) : X_laws_eqLine [lnV l, lnV l] [] = some (.bool true, []) := by
  have c1 := s_eqByteSS l.rows hl.1 hl.2.1
  have c2 := s_eqByteS l.cur hl.2.2
  simp (maxSteps := 2000000) +contextual -implicitDefEqProofs [X_laws_eqLine, retK_eq, c1, c2]
/-- A line's answer, frozen. -/
abbrev lrF (c : Int) (b : Bool) (O E : List Int) (l : LnT) : Value := lrV c b (frS eU8 O) (frS eU8 E) (frS eBS l.rows) (frS eU8 l.cur) l.t l.n
theorem s_eqLineResult (c : Int) (b : Bool) (O E : List Int) (l : LnT) (hO : O.length < 1000000000) (hE : E.length < 1000000000) (hl : l.small) : X_laws_eqLineResult [lrF c b O E l, lrF c b O E l] [] = some (.bool true, []) := by
  have c1 := s_eqByteS O hO
  have c2 := s_eqByteS E hE
  have c3 := s_eqLine l hl
  simp (maxSteps := 2000000) -implicitDefEqProofs [X_laws_eqLineResult, retK_eq, c1, c2, c3]
end Go.Ab
namespace Go.Ab
set_option linter.unusedSimpArgs false
set_option linter.unusedVariables false
set_option maxHeartbeats 4000000

def szLn (l : LnT) (left : Int) : Int := if szSS l.rows left < 0 then -1 else szN l.cur.length (szSS l.rows left)
theorem s_szLine (l : LnT) (left : Int) (hl : l.fit) (h0 : 0 ≤ left) (h1 : left ≤ 1048576) : X_laws_szLine [lnV l, .int .i64 left] [] = some (.int .i64 (szLn l left), []) := by
  have c1 := s_szByteSS l.rows left hl.1 hl.2.1 h0 h1
  by_cases e1 : szSS l.rows left < 0
  · simp +contextual -implicitDefEqProofs [X_laws_szLine, retK_eq, c1, e1, szLn]
  · have hle : szSS l.rows left ≤ 1048576 := by
      have := (szSS_small (l := l.rows) h1 (by omega)).1
      omega
    have c2 := s_szByteS l.cur (szSS l.rows left) hl.2.2 (by omega) hle
    have : szN l.cur.length (szSS l.rows left) < 0 → szN l.cur.length (szSS l.rows left) = -1 := by unfold szN; split <;> omega
    by_cases e2 : szN l.cur.length (szSS l.rows left) < 0 <;> simp +contextual -implicitDefEqProofs [X_laws_szLine, retK_eq, c1, c2, e1, e2, szLn, this]
end Go.Ab
namespace Go.Ab
set_option linter.unusedSimpArgs false
set_option linter.unusedVariables false
set_option maxHeartbeats 4000000

/-! ## Answers without a piece, and faults, as things -/
abbrev r0M (cur : List Int) : Mem := ownB eU8 [] :: edM cur
theorem lnM_0 (l : LnT) (hr : l.rows = []) : lnM l = r0M l.cur := by
  unfold lnM
  rw [hr]
  simp [famM, famB, famX]
  rfl
theorem can_r0 (cur : List Int) (t : Bool) (m : Int) : Can (lrV 0 false nilW nilW (slO 0 0) (edV 1 cur) t m) (r0M cur) := by
  by_cases hd : cur = []
  · subst hd
    exact ⟨by simp [edV, edM], by simp [edV, edM], by simp [edV, edM]⟩
  · have e1 : edM cur = [ownB eU8 cur] := by unfold edM; rw [if_neg hd]
    have e2 : edV 1 cur = slO 1 cur.length := by unfold edV; rw [if_neg hd]
    rw [r0M, e1, e2]
    exact ⟨by simp, by simp, by simp⟩
theorem hd_r0 (cur : List Int) : HdM (r0M cur) := by
  intro N
  refine mapB_mk fun i b hb => ?_
  have hm := List.mem_of_getElem? hb
  rcases List.mem_cons.1 hm with rfl | hm
  · exact ⟨_, shB_own eU8 eU8_hard _ _ []⟩
  · obtain ⟨x, rfl⟩ := edM_own cur b hm
    exact ⟨_, shB_own eU8 eU8_hard _ _ x⟩
theorem rn_r0 (cur : List Int) (t : Bool) (m : Int) (N : Nat) : rnV 8 hard (sft N (r0M cur).length) (lrV 0 false nilW nilW (slO 0 0) (edV 1 cur) t m) = some (lrV 0 false nilW nilW (slO N 0) (edV (N + 1) cur) t m) := by
  by_cases hd : cur = []
  · subst hd
    simp [edV, edM]
  · have e1 : edM cur = [ownB eU8 cur] := by unfold edM; rw [if_neg hd]
    have e2 : ∀ k, edV k cur = slO k cur.length := fun k => by unfold edV; rw [if_neg hd]
    rw [r0M, e1, e2, e2]
    simp
theorem fz_r0 (cur : List Int) (t : Bool) (m : Int) : fz 64 (r0M cur) (lrV 0 false nilW nilW (slO 0 0) (edV 1 cur) t m) = some (lrF 0 false [] [] ⟨[], cur, t, m⟩) := by
  have f3 := fz_edV (r0M cur) 1 cur (fun hd => by
    have e1 : edM cur = [ownB eU8 cur] := by unfold edM; rw [if_neg hd]
    rw [r0M, e1]
    rfl)
  rw [fz_agg]
  simp only [mapO, f3]
  rfl
theorem can_rb (c : Int) : Can (lrB c) [] := ⟨by simp, by simp, by simp⟩
theorem rn_rb (c : Int) (N : Nat) : rnV 8 hard (sft N 0) (lrB c) = some (lrB c) := by simp
theorem fz_rb (c : Int) : fz 64 [] (lrB c) = some (lrF c false [] [] ⟨[], [], false, 0⟩) := by simp [frS_nil]
end Go.Ab
namespace Go.Ab
set_option linter.unusedSimpArgs false
set_option linter.unusedVariables false
set_option maxHeartbeats 4000000

/-! ## The reference's answers, frozen -/
theorem fz_sp (O cur : List Int) (t : Bool) (m : Int) (p R : List (List Int)) : fz 64 [ownB eU8 O, ownB eBS (p ++ R)] (lrV 0 true (slO 0 O.length) nilW (rdyV 1 p R) (frS eU8 cur) t m) = some (lrF 0 true O [] ⟨R, cur, t, m⟩) := by
  have f1 : fz 63 [ownB eU8 O, ownB eBS (p ++ R)] (slO 0 O.length) = some (frS eU8 O) := by simp
  have f2 : fz 63 [ownB eU8 O, ownB eBS (p ++ R)] (rdyV 1 p R) = some (frS eBS R) := by
    cases R with
    | nil => rfl
    | cons x r =>
      have := fzO_part eBS 61 [ownB eU8 O, ownB eBS (p ++ x :: r)] (l := p ++ x :: r) (o := p.length) (a := p.length) (len := (x :: r).length) (by simp) (by simp)
      rw [List.drop_left, List.take_of_length_le (Nat.le_refl _)] at this
      rw [rdyV_cons, fz_slO]
      exact this
  have f3 : fz 63 [ownB eU8 O, ownB eBS (p ++ R)] (frS eU8 cur) = some (frS eU8 cur) := by simp
  rw [fz_agg]
  simp only [mapO, f1, f2, f3]
  rfl
theorem fz_sp0 (cur : List Int) (t : Bool) (m : Int) : fz 64 [ownB eU8 []] (lrV 0 false (slO 0 0) nilW nilW (frS eU8 cur) t m) = some (lrF 0 false [] [] ⟨[], cur, t, m⟩) := by
  have f3 : fz 63 [ownB eU8 []] (frS eU8 cur) = some (frS eU8 cur) := by simp
  rw [fz_agg]
  simp only [mapO, f3]
  rfl
end Go.Ab
