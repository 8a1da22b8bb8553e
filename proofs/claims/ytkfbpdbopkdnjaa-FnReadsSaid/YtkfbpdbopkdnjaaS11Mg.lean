/- What the functions of the program answer, for all arguments that the theorems name as conditions. -/
import Derived.Test.YtkfbpdbopkdnjaaS11Mf
import Derived.Test.YtkfbpdbopkdnjaaS11Ma
import Derived.Test.YtkfbpdbopkdnjaaFD
set_option linter.unusedVariables false
set_option linter.unusedSimpArgs false
namespace Go.Ab
set_option maxHeartbeats 4000000

/-! ## The copy, made anywhere -/
theorem elK_okH (x : List Int) : (elK x).okH := ⟨rfl, rfl⟩
theorem okH_K (l : List (List Int)) : ∀ e ∈ l.map elK, e.okH := by
  intro e he
  obtain ⟨x, _, rfl⟩ := List.mem_map.1 he
  exact elK_okH x
theorem mapB_own : ∀ (F : Mem) (f : Blk → Option Blk), (∀ b ∈ F, f b = some b) → mapB f F = some F
  | [], f, h => rfl
  | b :: F, f, h => by
    rw [mapB_cons, h b (by simp), bo_some, mapB_own F f fun x hx => h x (by simp [hx])]
    rfl
theorem f_clone (mm : Mem) (v : Value) (l : LnT) (hz : fz 64 mm v = some (lnV l)) (hl : l.rows.length < 1000000) (hb : ∀ x ∈ l.rows, x.length < 1000000000) (hc : l.cur.length < 1000000000) : fcall X_impl_Line_clone [v] mm = some (.agg #[slO mm.length l.rows.length, edV (mm.length + 1) l.cur, .bool l.t, .int .i64 l.n], mm ++ (famB (mm.length + 1 + (edM l.cur).length) 1 (l.rows.map elK) :: (edM l.cur ++ famM eU8 (l.rows.map elK)))) := by
  have hX := s_impl_Line_clone l hl hb hc
  have hE := edM_le l.cur
  have hlen : (lnM l).length = 1 + (edM l.cur).length + famN (l.rows.map elK) := by simp [lnM]; omega
  have hv : rnV 8 hard (sft mm.length (lnM l).length) (lnW 0 l) = some (.agg #[slO mm.length l.rows.length, edV (mm.length + 1) l.cur, .bool l.t, .int .i64 l.n]) := by
    rw [hlen]
    unfold edV
    by_cases hd : l.cur = []
    · have : 0 < 1 + (edM l.cur).length + famN (l.rows.map elK) := by omega
      simp [hd, edV, edM]
    · have e1 : (edM l.cur).length = 1 := by unfold edM; rw [if_neg hd]; rfl
      rw [e1]
      have : 0 < 1 + 1 + famN (l.rows.map elK) := by omega
      have : 1 < 1 + 1 + famN (l.rows.map elK) := by omega
      simp [hd, edV]
      exact ⟨by omega, by omega⟩
  have hm : mapB (shB mm.length (lnM l).length) (lnM l) = some (famB (mm.length + 1 + (edM l.cur).length) 1 (l.rows.map elK) :: (edM l.cur ++ famM eU8 (l.rows.map elK))) := by
    rw [hlen]
    unfold lnM
    have h1 : shB mm.length (1 + (edM l.cur).length + famN (l.rows.map elK)) (famB (1 + (edM l.cur).length) 1 (l.rows.map elK)) = some (famB (mm.length + 1 + (edM l.cur).length) 1 (l.rows.map elK)) := by
      have hr := fam_rnH eU8 (j := 7) (π := sft mm.length (1 + (edM l.cur).length + famN (l.rows.map elK))) (l.rows.map elK) (1 + (edM l.cur).length) (mm.length + 1 + (edM l.cur).length) (ok_K l.rows) (okH_K l.rows) (fun i hi => by unfold sft; rw [if_pos (by omega)]; congr 1; omega)
      unfold shB famB
      rw [if_pos ⟨rfl, rfl⟩]
      split
      · rename_i h
        rw [famX_zero _ (1 + (edM l.cur).length) (mm.length + 1 + (edM l.cur).length) (fam_hard _ _ h)]
      · rw [hr]; rfl
    rw [mapB_cons, h1, bo_some, mapB_own _ _ (fun b hb => by
      obtain ⟨i, hi, rfl⟩ := List.getElem_of_mem hb
      obtain ⟨x, e⟩ := own_all l.cur (l.rows.map elK) i hi
      rw [List.getElem?_eq_getElem hi] at e
      rw [Option.some.inj e]
      exact shB_own eU8 eU8_hard _ _ x)]
    rfl
  have ha : mapO (fz 64 mm) [v] = some [lnV l] := mapO1 hz
  rw [fcall_eq, ha, bo_some, hX, bo_some, hv, bo_some, hm, bo_some]
end Go.Ab
namespace Go.Ab
set_option maxHeartbeats 4000000

/-! ## ReadLine of the program: its answers' memory, its loop -/
theorem nm_edV (o : Nat) (cur : List Int) : o :: nmV 7 (edV (o + 1) cur) = List.range' o (1 + (edM cur).length) := by
  unfold edV edM
  by_cases hd : cur = [] <;> simp [hd, List.range'_succ]
theorem ret_line {mm : Mem} {y o k n : Nat} {cur out : List Int} {t : Bool} {m : Int} {es : List (El Int)} (H : LineSeg mm o cur es) (hy : mm[y]? = some (ownB eU8 out)) (hyo : y < o ∨ o + (1 + (edM cur).length + famN es) ≤ y) (hn : famN es < 4000000) (pv : List Value) : retK 0 mm pv (lrV 0 true (slO y n) nilW (slO o k) (edV (o + 1) cur) t m) = some (lrV 0 true (slO 0 n) nilW (slO 1 k) (edV 2 cur) t m, ownB eU8 out :: famB (2 + (edM cur).length) 1 es :: (edM cur ++ famM eU8 es)) := by
  have hE := edM_le cur
  have hnd : ([y] ++ List.range' o (1 + (edM cur).length + famN es)).Nodup := List.nodup_cons.2 ⟨fun h => by have h : y ∈ List.range' o (1 + (edM cur).length + famN es) := h; rw [mem_range'] at h; omega, List.nodup_range'⟩
  have l2 := H.loc2 [y] hnd
  have hix := ix_line hnd
  have h1 : reachF 4194304 mm (y :: List.range' o (1 + (edM cur).length)) [] = some ([y] ++ List.range' o (1 + (edM cur).length + famN es)) := by
    obtain ⟨K, hK⟩ : ∃ K, (4194304 : Nat) = K + 1 := ⟨4194303, rfl⟩
    rw [hK, reach_one hy (by simp) (nmB_own eU8 out), List.append_nil]
    exact H.reach [y] _ (fun x hx => by simp at hx; omega) (by omega)
  have h2 : locM mm ([y] ++ List.range' o (1 + (edM cur).length + famN es)) ([y] ++ List.range' o (1 + (edM cur).length + famN es)) = some (ownB eU8 out :: famB (2 + (edM cur).length) 1 es :: (edM cur ++ famM eU8 es)) := by
    have e : [y].length + 1 + (edM cur).length = 2 + (edM cur).length := rfl
    rw [e] at l2
    show locM mm _ (y :: List.range' o (1 + (edM cur).length + famN es)) = _
    rw [loc_one hy (locB_own eU8 _ out), l2]
    rfl
  have i0 := hix 0 (by omega)
  have iy : ixOf ([y] ++ List.range' o (1 + (edM cur).length + famN es)) y = some 0 := by simp
  refine ret_of h1 h2 ?_ ?_
  · rw [← nm_edV]
    simp
  · generalize [y] ++ List.range' o (1 + (edM cur).length + famN es) = RR at *
    unfold edV
    by_cases hd : cur = []
    · simp at i0
      simp [hd, i0, iy]
    · have i1 := hix 1 (by unfold edM; rw [if_neg hd]; simp; omega)
      simp at i0
      simp [hd, i0, i1, iy]
end Go.Ab
namespace Go.Ab
set_option maxHeartbeats 4000000

/-! ## A line in a box, frozen -/
theorem fz_partF {k c j b : Nat} {mm P Q : Mem} {L R : List (El Int)} (hb : mm[j]? = some (famB b 1 (L ++ R))) (hm : mm = P ++ (famM eU8 R ++ Q)) (hP : P.length = b + famN L) (hok : ∀ e ∈ R, e.ok eU8) (hL : ∀ e ∈ L, e.a.length + 1 + e.b.length = 1) (hR : ∀ e ∈ R, e.a.length + 1 + e.b.length = 1) : fz (k + 3) mm (slQ j L.length R.length c) = some (roS R.length (R.flatMap (El.fro eU8))) := by
  have hf := fz_fam eU8 (k := k) R P Q hok
  rw [← hm, hP] at hf
  rw [fz_slO, hb]
  unfold fzO
  split
  · rename_i h0
    obtain rfl : R = [] := List.eq_nil_of_length_eq_zero h0
    rfl
  · rename_i h0
    have l1 : (famX b L).length = L.length := by have := famX_len L b hL; omega
    have l2 : (famX (b + famN L) R).length = R.length := by have := famX_len R (b + famN L) hR; omega
    have hr : fzO.rdB (famB b 1 (L ++ R)) L.length (R.length * (famB b 1 (L ++ R)).es) = some (famX (b + famN L) R) := by
      show fzO.rdB ⟨famX b (L ++ R), 1, true, true⟩ L.length (R.length * 1) = _
      rw [famX_app]
      unfold fzO.rdB
      split
      · omega
      · rw [if_pos ⟨rfl, by rw [List.length_append, l1, l2]; omega⟩, ← l1, List.drop_left, List.take_of_length_le (by rw [l2]; omega)]
    simp only [hr, ob_some, hf]
    rfl
theorem elK_sz (x : List Int) : (elK x).a.length + 1 + (elK x).b.length = 1 := rfl
theorem elU_sz (x : List Int) : (elU x).a.length + 1 + (elU x).b.length = 1 := rfl
theorem fro_K (r : List (List Int)) : (r.map elK).flatMap (El.fro eU8) = cellsE eBS r := by
  induction r with
  | nil => rfl
  | cons x r ih =>
    have e : El.fro eU8 (elK x) = [frS eU8 x] := by
      unfold El.fro elK
      by_cases hx : x = []
      · simp [hx, Pc.con]
      · simp [hx, Pc.con]
    rw [List.map_cons, List.flatMap_cons, e, ih, cellsE_cons]
    rfl
theorem fro_H (x : List Int) (k : Nat) : El.fro eU8 (elH x k) = [frS eU8 (x.drop k)] := rfl
end Go.Ab
namespace Go.Ab
set_option maxHeartbeats 4000000

/-! ## ReadLine of the program: how its loop ends -/
abbrev rzB : Blk := blk (lrC 0 false nilW nilW nilW nilW false 0)
theorem rl_exit {mm : Mem} {w : WayT} {a len c n q : Nat} {cur out : List Int} {t : Bool} {m : Int} {R : List (List Int)} (g0 : mm[0]? = some (blk (wayT w []))) (g1 : mm[1]? = some rzB) (g2 : mm[2]? = some (lbB 4 a len c cur t m)) (g3 : mm[3]? = some (ownB eU8 out)) (hz : fz 64 mm (.agg #[slQ 4 a len c, edV 5 cur, .bool t, .int .i64 m]) = some (lnV ⟨R, cur, t, m⟩)) (hR : R.length < 1000000) (hb : ∀ x ∈ R, x.length < 1000000000) (hcu : cur.length < 1000000000) (hc : cnB w = true ∨ len = 0 ∨ ¬ out.length < n) : L_impl_ReadLine 0 (q + 1) 0 [.int .i64 n, ptr 0, ptr 1, ptr 2, slO 3 out.length] mm = some (lrV 0 true (slO 0 out.length) nilW (slO 1 R.length) (edV 2 cur) t m, ownB eU8 out :: famB (2 + (edM cur).length) 1 (R.map elK) :: (edM cur ++ famM eU8 (R.map elK))) := by
  have hW : fcall X_impl_Way_has [wayV w, .int .i64 1] mm = some (.bool (cnB w), mm) := f_ask (mapO2 (by simp) (by simp)) (s_impl_Way_has w) rfl
  have hcl := f_clone mm _ ⟨R, cur, t, m⟩ hz hR hb hcu
  have hlen : 3 < mm.length := (List.getElem?_eq_some_iff.1 g3).1
  have hok := ok_K R
  have hN := famN_K R
  simp only at hcl
  have hret : ∀ pv, retK 0 ((mm ++ (famB (mm.length + 1 + (edM cur).length) 1 (R.map elK) :: (edM cur ++ famM eU8 (R.map elK)))).set 1 (blk (lrC 0 true (slO 3 out.length) nilW (slO mm.length R.length) (edV (mm.length + 1) cur) t m))) pv (lrV 0 true (slO 3 out.length) nilW (slO mm.length R.length) (edV (mm.length + 1) cur) t m) = some (lrV 0 true (slO 0 out.length) nilW (slO 1 R.length) (edV 2 cur) t m, ownB eU8 out :: famB (2 + (edM cur).length) 1 (R.map elK) :: (edM cur ++ famM eU8 (R.map elK))) := by
    intro pv
    refine ret_line (y := 3) (o := mm.length) (out := out) ⟨fun i x h => ?_, hok⟩ ?_ (by omega) (by omega) pv
    · rw [List.getElem?_set_ne (by omega), List.getElem?_append_right (by omega), Nat.add_sub_cancel_left]
      exact h
    · rw [List.getElem?_set_ne (by omega), List.getElem?_append_left hlen]
      exact g3
  have s1 : (mm ++ (famB (mm.length + 1 + (edM cur).length) 1 (R.map elK) :: (edM cur ++ famM eU8 (R.map elK))))[1]? = some rzB := by
    rw [List.getElem?_append_left (by omega)]
    exact g1
  have s2 : ((mm ++ (famB (mm.length + 1 + (edM cur).length) 1 (R.map elK) :: (edM cur ++ famM eU8 (R.map elK)))).set 1 (blk (lrC 0 true (slO 3 out.length) nilW (slO mm.length R.length) (edV (mm.length + 1) cur) t m)))[1]? = some (blk (lrC 0 true (slO 3 out.length) nilW (slO mm.length R.length) (edV (mm.length + 1) cur) t m)) := by
    rw [List.getElem?_set_self (by simp; omega)]
  generalize mm ++ (famB (mm.length + 1 + (edM cur).length) 1 (R.map elK) :: (edM cur ++ famM eU8 (R.map elK))) = MM at *
  have fe : ∀ k, flat (edV k cur) = true := fun k => by unfold edV; split <;> rfl
  generalize ownB eU8 out :: famB (2 + (edM cur).length) 1 (R.map elK) :: (edM cur ++ famM eU8 (R.map elK)) = RES at *
  by_cases h1 : cnB w = true
  · simp (maxSteps := 400000) -implicitDefEqProofs [-fcall_eq, -rcall_eq, L_impl_ReadLine, g0, g2, hW, hcl, h1, s1, s2, fe, hret]
  · have h1' : cnB w = false := by simpa using h1
    rcases Nat.eq_zero_or_pos len with h2 | h2
    · subst h2
      simp (maxSteps := 400000) -implicitDefEqProofs [-fcall_eq, -rcall_eq, L_impl_ReadLine, g0, g2, hW, hcl, h1', s1, s2, fe, hret]
    · have h3 : ¬ (out.length : Int) < n := by
        rcases hc with h | h | h
        · exact absurd h h1
        · omega
        · omega
      simp (maxSteps := 400000) -implicitDefEqProofs [-fcall_eq, -rcall_eq, L_impl_ReadLine, g0, g2, hW, hcl, h1', h2, h3, s1, s2, fe, hret]
end Go.Ab
namespace Go.Ab
set_option maxHeartbeats 4000000

/-! ## ReadLine of the program: a round of its loop -/
abbrev rlM (w : WayT) (cur out : List Int) (t : Bool) (m : Int) (a len c : Nat) (es : List (El Int)) : Mem := blk (wayT w []) :: rzB :: lbB 4 a len c cur t m :: ownB eU8 out :: famB (5 + (edM cur).length) 1 es :: (edM cur ++ famM eU8 es)
theorem rlM_at (w : WayT) (cur out : List Int) (t : Bool) (m : Int) (a len c : Nat) (es : List (El Int)) (hok : ∀ e ∈ es, e.ok eU8) : LineAt (rlM w cur out t m a len c es) 2 4 a len c cur t m es := ⟨⟨fun i x h => by
  rw [show 4 + i = i + 1 + 1 + 1 + 1 by omega]
  exact h, hok⟩, rfl⟩
theorem rl_step (w : WayT) (cur out y : List Int) (t : Bool) (m : Int) (a len c a' len' c' n q : Nat) (es es' : List (El Int)) (v' : Value) (hok' : ∀ e ∈ es', e.ok eU8) (hn : famN es' < 4000000) (hcn : cnB w = false) (hlen : 0 < len) (hon : out.length < n) (hn9 : n ≤ 99) (hfl : flat v' = true)
    (hcall : rcall X_impl_Line_next [ptr 2, .int .i64 ((n - out.length : Nat) : Int)] (rlM w cur out t m a len c es) = some (v', rlM w cur out t m a' len' c' es'))
    (hap : apL (rlM w cur out t m a' len' c' es') 1 1 (slO 3 out.length) v' = some (slO (rlM w cur out t m a' len' c' es').length (out ++ y).length, (rlM w cur out t m a' len' c' es').set 3 ⟨cellsE eU8 out, 1, true, false⟩ ++ [ownB eU8 (out ++ y)])) :
    L_impl_ReadLine 0 (q + 1) 0 [.int .i64 n, ptr 0, ptr 1, ptr 2, slO 3 out.length] (rlM w cur out t m a len c es) = L_impl_ReadLine 0 q 0 [.int .i64 n, ptr 0, ptr 1, ptr 2, slO 3 (out ++ y).length] (rlM w cur (out ++ y) t m a' len' c' es') := by
  have hE := edM_le cur
  have hl : (rlM w cur out t m a' len' c' es').length = 5 + (edM cur).length + famN es' := by simp; omega
  have hW : fcall X_impl_Way_has [wayV w, .int .i64 1] (rlM w cur out t m a len c es) = some (.bool (cnB w), rlM w cur out t m a len c es) := f_ask (mapO2 (by simp) (by simp)) (s_impl_Way_has w) rfl
  rw [hcn] at hW
  have g0 : (rlM w cur out t m a len c es)[0]? = some (blk (wayT w [])) := rfl
  have g2 : (rlM w cur out t m a len c es)[2]? = some (lbB 4 a len c cur t m) := rfl
  have hcut : ∀ pv, cutK 0 ((rlM w cur out t m a' len' c' es').set 3 ⟨cellsE eU8 out, 1, true, false⟩ ++ [ownB eU8 (out ++ y)]) pv [.int .i64 n, ptr 0, ptr 1, ptr 2, slO (rlM w cur out t m a' len' c' es').length (out ++ y).length] (L_impl_ReadLine 0 q 0) = L_impl_ReadLine 0 q 0 [.int .i64 n, ptr 0, ptr 1, ptr 2, slO 3 (out ++ y).length] (rlM w cur (out ++ y) t m a' len' c' es') := by
    intro pv
    have hb := rlM_at w cur out t m a' len' c' es' hok'
    have get : ∀ i, i ≠ 3 → i < (rlM w cur out t m a' len' c' es').length → ((rlM w cur out t m a' len' c' es').set 3 ⟨cellsE eU8 out, 1, true, false⟩ ++ [ownB eU8 (out ++ y)])[i]? = (rlM w cur out t m a' len' c' es')[i]? := fun i h1 h2 => by
      rw [List.getElem?_append_left (by rw [List.length_set]; exact h2), List.getElem?_set_ne (by omega)]
    refine cut_line (wb := blk (wayT w [])) (rb := rzB) (b := 2) (y := (rlM w cur out t m a' len' c' es').length) (o := 4) (out := out ++ y) ⟨⟨fun i x h => ?_, hok'⟩, ?_⟩ ?_ rfl ?_ rfl ?_ hn ?_
    · have := hb.seg i x h
      rw [get (4 + i) (by omega) (List.getElem?_eq_some_iff.1 this).1]
      exact this
    · rw [get 2 (by omega) (by omega)]; rfl
    · rw [get 0 (by omega) (by omega)]; rfl
    · rw [get 1 (by omega) (by omega)]; rfl
    · rw [List.getElem?_append_right (by rw [List.length_set]; omega), List.length_set, Nat.sub_self]; rfl
    · rw [hl]
      refine List.nodup_cons.2 ⟨fun h => ?_, List.nodup_cons.2 ⟨fun h => ?_, List.nodup_cons.2 ⟨fun h => ?_, List.nodup_cons.2 ⟨fun h => ?_, List.nodup_range'⟩⟩⟩⟩
      · simp only [List.mem_cons, mem_range'] at h; omega
      · simp only [List.mem_cons, mem_range'] at h; omega
      · simp only [List.mem_cons, mem_range'] at h; omega
      · rw [mem_range'] at h; omega
  generalize (rlM w cur out t m a' len' c' es').length = LL at *
  generalize rlM w cur out t m a' len' c' es' = M1 at *
  generalize rlM w cur out t m a len c es = M0 at *
  have h3 : (out.length : Int) < n := by omega
  have hw : IntKind.i64.wrap ((n : Int) - out.length) = ((n - out.length : Nat) : Int) := by
    rw [wrap_i64 (by omega) (by omega)]
    omega
  simp (maxSteps := 400000) -implicitDefEqProofs [-fcall_eq, -rcall_eq, L_impl_ReadLine, g0, g2, hW, hlen, h3, hw, hcall, hap]
  have := hcut [.int .i64 n]
  rw [List.length_append] at this
  exact this
end Go.Ab
namespace Go.Ab
set_option maxHeartbeats 4000000

/-! ## ReadLine of the program: what a piece gives -/
theorem okU (P : List (List Int)) : ∀ e ∈ P.map elU, e.ok eU8 := by
  intro e he
  obtain ⟨x, _, rfl⟩ := List.mem_map.1 he
  exact elU_ok x
theorem famX_Ulen (k : Nat) (l : List (List Int)) : (famX k (l.map elU)).length = l.length := by
  induction l generalizing k with
  | nil => rfl
  | cons x r ih => simp [famX, elU, ih]
theorem famN_U (l : List (List Int)) : famN (l.map elU) ≤ l.length := by
  induction l with
  | nil => exact Nat.le_refl _
  | cons x r ih =>
    have : (elU x).p.n ≤ 1 := by unfold elU; split <;> simp [Pc.n]
    simp only [List.map_cons, famN, List.length_cons]
    omega
/-- Where the first piece lies. -/
theorem rlM_get (w : WayT) (cur out : List Int) (t : Bool) (m : Int) (a len c : Nat) (L R : List (El Int)) (e : El Int) (x : List Int) (he : e.p.mem eU8 = [ownB eU8 x]) : (rlM w cur out t m a len c (L ++ e :: R))[5 + (edM cur).length + famN L]? = some (ownB eU8 x) := by
  rw [show 5 + (edM cur).length + famN L = (edM cur).length + famN L + 1 + 1 + 1 + 1 + 1 by omega]
  simp only [rlM, List.getElem?_cons_succ]
  rw [famM_app, famM, he, ← List.append_assoc, List.getElem?_append_right (by simp), List.length_append, famM_len, Nat.sub_self]
  rfl
theorem ap_part (w : WayT) (cur out : List Int) (t : Bool) (m : Int) (a len c : Nat) (es : List (El Int)) (z k cc : Nat) (x : List Int) (hz : (rlM w cur out t m a len c es)[z]? = some (ownB eU8 x)) (hk : k ≤ x.length) (hb : out.length + x.length < 1000000000) : apL (rlM w cur out t m a len c es) 1 1 (slO 3 out.length) (slQ z 0 k cc) = some (slO (rlM w cur out t m a len c es).length (out ++ x.take k).length, (rlM w cur out t m a len c es).set 3 ⟨cellsE eU8 out, 1, true, false⟩ ++ [ownB eU8 (out ++ x.take k)]) := by
  have hr : rdM (some (ownB eU8 x)) 0 (k * 1) = some (cellsE eU8 (x.take k)) := by
    have ek : (cellsE eU8 (x.take k)).length = k := by rw [cellsE_len]; simp; omega
    have ex : cellsE eU8 x = cellsE eU8 (x.take k) ++ cellsE eU8 (x.drop k) := by rw [← cellsE_append, List.take_append_drop]
    have exl : k ≤ (cellsE eU8 x).length := by rw [ex, List.length_append]; omega
    unfold rdM fzO.rdB
    by_cases h0 : k = 0
    · subst h0
      rw [if_pos rfl]
      rfl
    · rw [if_neg (by omega)]
      simp only
      rw [if_neg (by omega), if_pos ⟨rfl, by show 0 + k * 1 ≤ (cellsE eU8 x).length; omega⟩]
      show some (((cellsE eU8 x).drop 0).take (k * 1)) = _
      rw [List.drop_zero, Nat.mul_one, ex, List.take_left' ek]
  have h3 : (rlM w cur out t m a len c es)[3]? = some (ownB eU8 out) := rfl
  have ek : (x.take k).length = k := by simp; omega
  have p2 := apB_own (E := eU8) (m := rlM w cur out t m a len c es) (l := out) (n := 3) (sz := 1) (cs := cellsE eU8 (x.take k)) (k := k) rfl
  rw [apL_sl (by omega) (by omega), hz, hr, bo_some, h3, p2, List.length_append, ek]
  have : (⟨cellsE eU8 out ++ cellsE eU8 (x.take k), 1, true, true⟩ : Blk) = ownB eU8 (out ++ x.take k) := by rw [← cellsE_append]; rfl
  rw [this]
  rfl
theorem ap_none (w : WayT) (cur out : List Int) (t : Bool) (m : Int) (a len c : Nat) (es : List (El Int)) (hb : out.length < 1000000000) : apL (rlM w cur out t m a len c es) 1 1 (slO 3 out.length) (roS 0 []) = some (slO (rlM w cur out t m a len c es).length (out ++ []).length, (rlM w cur out t m a len c es).set 3 ⟨cellsE eU8 out, 1, true, false⟩ ++ [ownB eU8 (out ++ [])]) := by
  have h3 : (rlM w cur out t m a len c es)[3]? = some (ownB eU8 out) := rfl
  have p1 := apL_frS (E := eU8) (m := rlM w cur out t m a len c es) (sz := 1) (bytes := 1) (n := 3) (o := 0) (len := out.length) (c := out.length) (l := []) rfl (by simpa using hb) (by omega)
  have p2 := apB_own (E := eU8) (m := rlM w cur out t m a len c es) (l := out) (n := 3) (sz := 1) (cs := cellsE eU8 []) (k := 0) rfl
  have p1' : apL (rlM w cur out t m a len c es) 1 1 (slO 3 out.length) (roS 0 []) = _ := p1
  rw [p1', h3]
  refine Eq.trans p2 ?_
  rw [List.append_nil]
  have : (⟨cellsE eU8 out ++ cellsE eU8 [], 1, true, true⟩ : Blk) = ownB eU8 out := by rw [← cellsE_append, List.append_nil]; rfl
  rw [this]
  rfl
end Go.Ab
namespace Go.Ab
set_option maxHeartbeats 4000000

/-! ## ReadLine of the program: its loop, frozen lines -/
theorem fz_edV (mm : Mem) (k : Nat) (cur : List Int) (h : cur ≠ [] → mm[k]? = some (ownB eU8 cur)) : fz 63 mm (edV k cur) = some (frS eU8 cur) := by
  unfold edV
  by_cases hd : cur = []
  · rw [if_pos hd, hd]; rfl
  · rw [if_neg hd]
    have := h hd
    simp [this]
theorem rlM_ed (w : WayT) (cur out : List Int) (t : Bool) (m : Int) (a len c : Nat) (es : List (El Int)) (hd : cur ≠ []) : (rlM w cur out t m a len c es)[5]? = some (ownB eU8 cur) := by
  have e1 : edM cur = [ownB eU8 cur] := by unfold edM; rw [if_neg hd]
  simp only [rlM, List.getElem?_cons_succ]
  rw [e1]
  rfl
theorem fz_rl (w : WayT) (cur out : List Int) (t : Bool) (m : Int) (c : Nat) (L R : List (El Int)) (rows : List (List Int)) (hR : ∀ e ∈ R, e.ok eU8) (hL1 : ∀ e ∈ L, e.a.length + 1 + e.b.length = 1) (hR1 : ∀ e ∈ R, e.a.length + 1 + e.b.length = 1) (hlen : R.length = rows.length) (hfro : R.flatMap (El.fro eU8) = cellsE eBS rows) (a : Nat) (ha : R = [] ∨ a = L.length) : fz 64 (rlM w cur out t m a rows.length c (L ++ R)) (.agg #[slQ 4 a rows.length c, edV 5 cur, .bool t, .int .i64 m]) = some (lnV ⟨rows, cur, t, m⟩) := by
  have f2 := fz_edV (rlM w cur out t m a rows.length c (L ++ R)) 5 cur (rlM_ed w cur out t m a rows.length c (L ++ R))
  have f1 : fz 63 (rlM w cur out t m a rows.length c (L ++ R)) (slQ 4 a rows.length c) = some (frS eBS rows) := by
    rcases ha with h | h
    · subst h
      have h0 : rows = [] := List.eq_nil_of_length_eq_zero hlen.symm
      subst h0
      rfl
    · subst h
      have := fz_partF (k := 60) (c := c) (j := 4) (b := 5 + (edM cur).length) (mm := rlM w cur out t m L.length rows.length c (L ++ R)) (P := blk (wayT w []) :: rzB :: lbB 4 L.length rows.length c cur t m :: ownB eU8 out :: famB (5 + (edM cur).length) 1 (L ++ R) :: (edM cur ++ famM eU8 L)) (Q := []) (L := L) (R := R) rfl (by simp [famM_app]) (by simp [famM_len]; omega) hR hL1 hR1
      rw [hlen, hfro] at this
      exact this
  rw [fz_agg]
  simp only [mapO, f1, f2]
  rfl
theorem tlS_eq (k : Nat) (P r : List (List Int)) (x : List Int) : tlS k P.length r.length = slQ k (if r = [] then P.length else P.length + 1) r.length r.length := by
  cases r <;> simp [tlS]
abbrev RES (cur : List Int) (t : Bool) (m : Int) (o : List Int × List (List Int)) : Option VM := some (lrV 0 true (slO 0 o.1.length) nilW (slO 1 o.2.length) (edV 2 cur) t m, ownB eU8 o.1 :: famB (2 + (edM cur).length) 1 (o.2.map elK) :: (edM cur ++ famM eU8 (o.2.map elK)))
theorem sz_U (P : List (List Int)) : ∀ e ∈ P.map elU, e.a.length + 1 + e.b.length = 1 := by
  intro e he
  obtain ⟨x, _, rfl⟩ := List.mem_map.1 he
  rfl
theorem sz_K (P : List (List Int)) : ∀ e ∈ P.map elK, e.a.length + 1 + e.b.length = 1 := by
  intro e he
  obtain ⟨x, _, rfl⟩ := List.mem_map.1 he
  rfl
theorem okUK (P r : List (List Int)) : ∀ e ∈ P.map elU ++ r.map elK, e.ok eU8 := by
  intro e he
  rcases List.mem_append.1 he with h | h
  · exact okU P e h
  · exact ok_K r e h
theorem l_RL (w : WayT) (cur : List Int) (t : Bool) (m : Int) (n : Nat) (hn : n ≤ 99) (hcn : cnB w = false) (hcu : cur.length < 1000000000) (r : List (List Int)) : ∀ (P : List (List Int)) (out : List Int) (q : Nat), r.length < q → P.length + r.length < 1000 → (∀ x ∈ r, x.length < 1000000) → out.length ≤ n → L_impl_ReadLine 0 q 0 [.int .i64 n, ptr 0, ptr 1, ptr 2, slO 3 out.length] (rlM w cur out t m (if r = [] then P.length - 1 else P.length) r.length r.length (P.map elU ++ r.map elK)) = RES cur t m (rdS false n out r) := by
  induction r with
  | nil =>
    intro P out q hq hl hb ho
    obtain ⟨q, rfl⟩ : ∃ j, q = j + 1 := ⟨q - 1, by omega⟩
    have hz := fz_rl w cur out t m 0 (P.map elU) [] [] (by simp) (sz_U P) (by simp) rfl rfl (P.length - 1) (.inl rfl)
    rw [rdS, if_pos rfl]
    exact rl_exit (R := []) rfl rfl rfl rfl hz (by simp) (by simp) hcu (.inr (.inl rfl))
  | cons x r ih =>
    intro P out q hq hl hb ho
    obtain ⟨q, rfl⟩ : ∃ j, q = j + 1 := ⟨q - 1, by omega⟩
    have hbx := hb x (by simp)
    rw [if_neg (by simp)]
    by_cases h1 : out.length < n
    · have ok0 := okUK P (x :: r)
      have hl' : P.length + (r.length + 1) < 1000 := hl
      have hN1 := famN_U P
      have hN2 := famN_K r
      have hLa : ∀ k, (famX k (P.map elU)).length = P.length := fun k => famX_Ulen k P
      have hAt := rlM_at w cur out t m P.length (r.length + 1) (r.length + 1) (P.map elU ++ elK x :: r.map elK) ok0
      have hE := edM_le cur
      have ok1 : ∀ e ∈ P.map elU ++ elU x :: r.map elK, e.ok eU8 := by
        have := okUK (P ++ [x]) r
        rw [List.map_append, List.append_assoc] at this
        exact this
      have eP : P.map elU ++ elU x :: r.map elK = (P ++ [x]).map elU ++ r.map elK := by simp
      have eA : (if r = [] then (P ++ [x]).length - 1 else (P ++ [x]).length) = (if r = [] then P.length else P.length + 1) := by split <;> simp
      by_cases hx : x = []
      · subst hx
        have s0 := s_next0 P.length r.length (n - out.length) cur t m (P.map elU) (r.map elK) (okU P) (ok_K r) hLa (by omega) (by omega) (by omega)
        have e0 : (elU [] : El Int) = elK [] := rfl
        unfold lbV at s0
        rw [tlS_eq 1 P r []] at s0
        have hc := rcall_lineG hAt (.inl (by omega)) (if r = [] then P.length else P.length + 1) r.length r.length (n - out.length) (P.map elU ++ elU [] :: r.map elK) ok1 (by rw [e0]) (by rw [e0]) (by rw [famN_app]; simp [famN, elK, Pc.n]; omega) (roS 0 []) (roS 0 []) (.inl ⟨rfl, rfl⟩) s0
        have hstep := rl_step w cur out [] t m P.length (r.length + 1) (r.length + 1) (if r = [] then P.length else P.length + 1) r.length r.length n q (P.map elU ++ elK [] :: r.map elK) (P.map elU ++ elU [] :: r.map elK) (roS 0 []) ok1 (by rw [famN_app]; simp [famN, elU, Pc.n]; omega) hcn (by omega) h1 hn rfl hc (ap_none w cur out t m _ _ _ _ (by omega))
        have h := ih (P ++ [[]]) (out ++ []) q (by simp at hq; omega) (by simp at hl ⊢; omega) (fun y hy => hb y (by simp [hy])) (by simpa using ho)
        rw [rdS, if_pos h1, if_neg (by simp), if_neg (by simp)]
        rw [← h, eA, ← eP]
        exact hstep
      · obtain ⟨m1, m2, m3⟩ := famM_UH x (n - out.length) hx
        have nU : (elU x).p.n = 1 := by unfold elU; simp [hx, Pc.n]
        have nK : (elK x).p.n = 1 := by unfold elK; simp [hx, Pc.n]
        have nH : (elH x (n - out.length)).p.n = 1 := rfl
        have eNU : famN (P.map elU ++ elU x :: r.map elK) = famN (P.map elU) + (1 + famN (r.map elK)) := by rw [famN_app, famN, nU]
        have eNK : famN (P.map elU ++ elK x :: r.map elK) = famN (P.map elU) + (1 + famN (r.map elK)) := by rw [famN_app, famN, nK]
        have eNH : famN (P.map elU ++ elH x (n - out.length) :: r.map elK) = famN (P.map elU) + (1 + famN (r.map elK)) := by rw [famN_app, famN, nH]
        have eMU : famM eU8 (P.map elU ++ elU x :: r.map elK) = famM eU8 (P.map elU ++ elK x :: r.map elK) := by rw [famM_app, famM_app, famM, famM, m1, m3]
        have eMH : famM eU8 (P.map elU ++ elH x (n - out.length) :: r.map elK) = famM eU8 (P.map elU ++ elK x :: r.map elK) := by rw [famM_app, famM_app, famM, famM, m2, m3]
        by_cases h2 : n - out.length < x.length
        · have s2 := s_next2 P.length r.length (n - out.length) cur t m x hx hbx h2 (by omega) (P.map elU) (r.map elK) (okU P) (ok_K r) hLa (by omega) (by omega) (by omega)
          have okH : ∀ e ∈ P.map elU ++ elH x (n - out.length) :: r.map elK, e.ok eU8 := by
            intro e he
            rcases List.mem_append.1 he with h | h
            · exact okU P e h
            · rcases List.mem_cons.1 h with rfl | h
              · exact elH_ok x _ h2
              · exact ok_K r e h
          have hc := rcall_lineG hAt (.inl (by omega)) P.length (r.length + 1) (r.length + 1) (n - out.length) (P.map elU ++ elH x (n - out.length) :: r.map elK) okH (by rw [eNH, eNK]) eMH (by omega) _ (slQ (5 + (edM cur).length + famN (P.map elU)) 0 (n - out.length) x.length) (.inr ⟨famN (P.map elU), n - out.length, x.length, by omega, rfl, rfl⟩) s2
          have hc' : rcall X_impl_Line_next [ptr 2, .int .i64 ((n - out.length : Nat) : Int)] (rlM w cur out t m P.length (r.length + 1) (r.length + 1) (P.map elU ++ elK x :: r.map elK)) = some (slQ (5 + (edM cur).length + famN (P.map elU)) 0 (n - out.length) x.length, rlM w cur out t m P.length (r.length + 1) (r.length + 1) (P.map elU ++ elH x (n - out.length) :: r.map elK)) := by
            rw [hc, rlM, rlM, eMH]
            rfl
          have hg := rlM_get w cur out t m P.length (r.length + 1) (r.length + 1) (P.map elU) (r.map elK) (elH x (n - out.length)) x m2
          have hstep := rl_step w cur out (x.take (n - out.length)) t m P.length (r.length + 1) (r.length + 1) P.length (r.length + 1) (r.length + 1) n q (P.map elU ++ elK x :: r.map elK) (P.map elU ++ elH x (n - out.length) :: r.map elK) _ okH (by omega) hcn (by omega) h1 hn rfl hc' (ap_part w cur out t m _ _ _ _ _ _ _ x hg (by omega) (by omega))
          obtain ⟨q, rfl⟩ : ∃ j, q = j + 1 := ⟨q - 1, by simp at hq; omega⟩
          have hz := fz_rl w cur (out ++ x.take (n - out.length)) t m (r.length + 1) (P.map elU) (elH x (n - out.length) :: r.map elK) (x.drop (n - out.length) :: r) (fun e he => okH e (List.mem_append_right _ he)) (sz_U P) (fun e he => by
            rcases List.mem_cons.1 he with rfl | he
            · rfl
            · exact sz_K r e he) (by simp) (by rw [List.flatMap_cons, fro_H, fro_K]; rfl) P.length (.inr (by simp))
          rw [rdS, if_pos h1, if_pos h2]
          refine Eq.trans hstep ?_
          exact rl_exit rfl rfl rfl rfl hz (by simp; omega) (fun y hy => by
            rcases List.mem_cons.1 hy with rfl | hy
            · simp; omega
            · have := hb y (by simp [hy]); omega) hcu (.inr (.inr (by simp; omega)))
        · have s1 := s_next1 P.length r.length (n - out.length) cur t m x hx hbx (by omega) (P.map elU) (r.map elK) (okU P) (ok_K r) hLa (by omega) (by omega) (by omega)
          unfold lbV at s1
          rw [tlS_eq 1 P r x] at s1
          have hc := rcall_lineG hAt (.inl (by omega)) (if r = [] then P.length else P.length + 1) r.length r.length (n - out.length) (P.map elU ++ elU x :: r.map elK) ok1 (by rw [eNU, eNK]) eMU (by omega) _ (slQ (5 + (edM cur).length + famN (P.map elU)) 0 x.length x.length) (.inr ⟨famN (P.map elU), x.length, x.length, by omega, rfl, rfl⟩) s1
          have hc' : rcall X_impl_Line_next [ptr 2, .int .i64 ((n - out.length : Nat) : Int)] (rlM w cur out t m P.length (r.length + 1) (r.length + 1) (P.map elU ++ elK x :: r.map elK)) = some (slQ (5 + (edM cur).length + famN (P.map elU)) 0 x.length x.length, rlM w cur out t m (if r = [] then P.length else P.length + 1) r.length r.length (P.map elU ++ elU x :: r.map elK)) := by
            rw [hc, rlM, rlM, eMU]
            rfl
          have hg := rlM_get w cur out t m (if r = [] then P.length else P.length + 1) r.length r.length (P.map elU) (r.map elK) (elU x) x m1
          have hap := ap_part w cur out t m (if r = [] then P.length else P.length + 1) r.length r.length (P.map elU ++ elU x :: r.map elK) _ x.length x.length x hg (Nat.le_refl _) (by omega)
          rw [List.take_of_length_le (Nat.le_refl _)] at hap
          have hstep := rl_step w cur out x t m P.length (r.length + 1) (r.length + 1) (if r = [] then P.length else P.length + 1) r.length r.length n q (P.map elU ++ elK x :: r.map elK) (P.map elU ++ elU x :: r.map elK) _ ok1 (by omega) hcn (by omega) h1 hn rfl hc' hap
          have h := ih (P ++ [x]) (out ++ x) q (by simp at hq; omega) (by simp at hl ⊢; omega) (fun y hy => hb y (by simp [hy])) (by simp; omega)
          rw [rdS, if_pos h1, if_neg h2, if_neg (by simp)]
          rw [← h, eA, ← eP]
          exact hstep
    · have hz := fz_rl w cur out t m (x :: r).length (P.map elU) ((x :: r).map elK) (x :: r) (ok_K _) (sz_U P) (sz_K _) (by simp) (fro_K _) P.length (.inr (by simp))
      rw [rdS, if_neg h1]
      exact rl_exit rfl rfl rfl rfl hz (by simp at hl ⊢; omega) (fun y hy => by have := hb y hy; omega) hcu (.inr (.inr h1))
end Go.Ab
namespace Go.Ab
set_option maxHeartbeats 4000000

/-! ## ReadLine of the program: faults -/
theorem s_impl_RL_bad (w : WayT) (l : LnT) (n : Int) (hl : l.small) (hf : askF w l ≠ 0) : X_impl_ReadLine (rlA w l n) [] = some (lrB (askF w l), []) := by
  have c1 := s_impl_WayFault w
  have c2 := s_impl_LineFault l hl
  have c3 := s_impl_first3
  have e : (if wayF w = 0 then lineF l else wayF w) = askF w l := rfl
  by_cases h1 : wayF w = 0
  · rw [if_pos h1] at e
    rw [← e] at hf ⊢
    simp (maxSteps := 400000) -implicitDefEqProofs [X_impl_ReadLine, retK_eq, c1, c2, c3, s_impl_in, s_impl_unless, h1, hf]
  · rw [if_neg h1] at e
    rw [← e] at hf ⊢
    simp (maxSteps := 400000) -implicitDefEqProofs [X_impl_ReadLine, retK_eq, c1, c2, c3, s_impl_in, s_impl_unless, h1, hf]
theorem s_impl_RL_3 (w : WayT) (l : LnT) (n : Int) (hl : l.small) (hf : askF w l = 0) (hn : inB n 1 99 = false) : X_impl_ReadLine (rlA w l n) [] = some (lrB 3, []) := by
  have c1 := s_impl_WayFault w
  have c2 := s_impl_LineFault l hl
  have c3 := s_impl_first3
  have h1 : wayF w = 0 := by
    by_cases h : wayF w = 0
    · exact h
    · unfold askF at hf; rw [if_neg h] at hf; exact absurd hf h
  have h2 : lineF l = 0 := by unfold askF at hf; rwa [if_pos h1] at hf
  simp (maxSteps := 400000) -implicitDefEqProofs [X_impl_ReadLine, retK_eq, c1, c2, c3, s_impl_in, s_impl_unless, h1, h2, hn, unl]
end Go.Ab
namespace Go.Ab
set_option maxHeartbeats 4000000

/-! ## ReadLine of the program: nothing is ready -/
theorem askF0 {w : WayT} {l : LnT} (hf : askF w l = 0) : wayF w = 0 ∧ lineF l = 0 := by
  unfold askF at hf
  split at hf
  · rename_i h; exact ⟨h, hf⟩
  · rename_i h; exact absurd hf h
theorem s_impl_RL_0 (w : WayT) (l : LnT) (n : Int) (hl : l.small) (hf : askF w l = 0) (hn : inB n 1 99 = true) (hr : l.rows = []) : X_impl_ReadLine (rlA w l n) [] = some (lrV 0 false nilW nilW (slO 0 0) (edV 1 l.cur) l.t l.n, lnM l) := by
  have c1 := s_impl_WayFault w
  have c2 := s_impl_LineFault l hl
  have c3 := s_impl_first3
  obtain ⟨h1, h2⟩ := askF0 hf
  have c4 := s_impl_Line_clone l (by rw [hr]; simp) hl.2.1 hl.2.2
  have e1 : lnM l = ownB eBS [] :: edM l.cur := by unfold lnM; rw [hr]; simp [famM, famB, famX]; rfl
  rw [e1] at c4 ⊢
  have e2 : l.rows.length = 0 := by rw [hr]; rfl
  simp only [lnW, e2] at c4
  have e5 : ∀ N k, shB N k (ownB eBS []) = some (ownB eBS []) := fun N k => rfl
  by_cases hd : l.cur = []
  · have e3 : edM l.cur = [] := by unfold edM; rw [if_pos hd]
    have e4 : ∀ k, edV k l.cur = roS 0 [] := fun k => by unfold edV; rw [if_pos hd]
    rw [e3, e4] at c4
    rw [e3, e4]
    simp (maxSteps := 400000) -implicitDefEqProofs [X_impl_ReadLine, retK_eq, c1, c2, c3, s_impl_in, s_impl_unless, h1, h2, hn, unl, c4, e5]
  · have e3 : edM l.cur = [ownB eU8 l.cur] := by unfold edM; rw [if_neg hd]
    have e4 : ∀ k, edV k l.cur = slO k l.cur.length := fun k => by unfold edV; rw [if_neg hd]
    rw [e3, e4] at c4
    rw [e3, e4]
    simp (maxSteps := 400000) -implicitDefEqProofs [X_impl_ReadLine, retK_eq, c1, c2, c3, s_impl_in, s_impl_unless, h1, h2, hn, unl, c4, e5]
end Go.Ab
namespace Go.Ab
set_option maxHeartbeats 4000000

/-! ## ReadLine of the program: the first piece -/
theorem ap_partG (mm : Mem) (y z k cc : Nat) (out x : List Int) (hy : mm[y]? = some (ownB eU8 out)) (hz : mm[z]? = some (ownB eU8 x)) (hk : k ≤ x.length) (hb : out.length + x.length < 1000000000) : apL mm 1 1 (slO y out.length) (slQ z 0 k cc) = some (slO mm.length (out ++ x.take k).length, mm.set y ⟨cellsE eU8 out, 1, true, false⟩ ++ [ownB eU8 (out ++ x.take k)]) := by
  have ek : (cellsE eU8 (x.take k)).length = k := by rw [cellsE_len]; simp; omega
  have hr : rdM (some (ownB eU8 x)) 0 (k * 1) = some (cellsE eU8 (x.take k)) := by
    have ex : cellsE eU8 x = cellsE eU8 (x.take k) ++ cellsE eU8 (x.drop k) := by rw [← cellsE_append, List.take_append_drop]
    have exl : k ≤ (cellsE eU8 x).length := by rw [ex, List.length_append]; omega
    unfold rdM fzO.rdB
    by_cases h0 : k = 0
    · subst h0
      rw [if_pos rfl]
      rfl
    · rw [if_neg (by omega)]
      simp only
      rw [if_neg (by omega), if_pos ⟨rfl, by show 0 + k * 1 ≤ (cellsE eU8 x).length; omega⟩]
      show some (((cellsE eU8 x).drop 0).take (k * 1)) = _
      rw [List.drop_zero, Nat.mul_one, ex, List.take_left' ek]
  have ek2 : (x.take k).length = k := by simp; omega
  have p2 := apB_own (E := eU8) (m := mm) (l := out) (n := y) (sz := 1) (cs := cellsE eU8 (x.take k)) (k := k) rfl
  rw [apL_sl (by omega) (by omega), hz, hr, bo_some, hy, p2, List.length_append, ek2]
  have : (⟨cellsE eU8 out ++ cellsE eU8 (x.take k), 1, true, true⟩ : Blk) = ownB eU8 (out ++ x.take k) := by rw [← cellsE_append]; rfl
  rw [this]
  rfl
abbrev cdB : Blk := ⟨[.int .i64 0, .int .i64 0, .int .i64 0], 1, true, true⟩
abbrev nwM (cur : List Int) (rows : List (List Int)) : Mem := famB (5 + (edM cur).length) 1 (rows.map elK) :: (edM cur ++ famM eU8 (rows.map elK))
abbrev fsM (w : WayT) (l : LnT) (NEW : Mem) : Mem := blk (wayT w []) :: blk (lnT l []) :: rzB :: cdB :: (NEW ++ [ownB eU8 [], lbB 4 0 l.rows.length l.rows.length l.cur l.t l.n])
theorem s_impl_RL_walk (w : WayT) (l : LnT) (n : Nat) (hl : l.small) (hf : askF w l = 0) (hn : inB n 1 99 = true) (hr : l.rows ≠ []) : X_impl_ReadLine (rlA w l n) [] = bo (fun r29 => bo (fun r30 => cutK 0 r30.2 (rlA w l n) [.int .i64 n, ptr 0, ptr 2, ptr ((nwM l.cur l.rows).length + 1 + 1 + 1 + 1 + 1), r30.1] (L_impl_ReadLine 0 QQ 0)) (apL r29.2 1 1 (slO ((nwM l.cur l.rows).length + 1 + 1 + 1 + 1) 0) r29.1)) (rcall X_impl_Line_next [ptr ((nwM l.cur l.rows).length + 1 + 1 + 1 + 1 + 1), .int .i64 n] (fsM w l (nwM l.cur l.rows))) := by
  obtain ⟨h1, h2⟩ := askF0 hf
  obtain ⟨h40, _⟩ := line_small40 hf
  have fW : ∀ mm, fcall X_impl_WayFault [wayV w] mm = some (.int .i64 0, mm) := fun mm => f_ask (fr := [wayV w]) (by simp) (by rw [← h1]; exact s_impl_WayFault w) rfl
  have fL : ∀ mm, fcall X_impl_LineFault [lnV l] mm = some (.int .i64 0, mm) := fun mm => f_ask (fr := [lnV l]) (by simp) (by rw [← h2]; exact s_impl_LineFault l hl) rfl
  have fI : ∀ mm, fcall X_impl_in [.int .i64 n, .int .i64 1, .int .i64 99] mm = some (.bool true, mm) := fun mm => f_ask (fr := [.int .i64 n, .int .i64 1, .int .i64 99]) (by simp) (by rw [← hn]; exact s_impl_in _ _ _) rfl
  have fU : ∀ mm, fcall X_impl_unless [.bool true, .int .i64 3] mm = some (.int .i64 0, mm) := fun mm => f_ask (fr := [.bool true, .int .i64 3]) (by simp) (s_impl_unless true 3) rfl
  have fF : ∀ b0 b1 b2, fcall X_impl_first [slO 3 3] [b0, b1, b2, ⟨[.int .i64 0, .int .i64 0, .int .i64 0], 1, true, true⟩] = some (.int .i64 0, [b0, b1, b2, ⟨[.int .i64 0, .int .i64 0, .int .i64 0], 1, true, true⟩]) := fun b0 b1 b2 => f_ask (fr := [frS eI6 [0, 0, 0]]) (by simp) (s_impl_first3 0 0 0) rfl
  have hcl : ∀ b0 b1 b2 b3, fcall X_impl_Line_clone [lnV l] [b0, b1, b2, b3] = some (.agg #[slO 4 l.rows.length, edV 5 l.cur, .bool l.t, .int .i64 l.n], b0 :: b1 :: b2 :: b3 :: nwM l.cur l.rows) := fun b0 b1 b2 b3 => f_clone [b0, b1, b2, b3] (lnV l) l (by simp) (by omega) hl.2.1 hl.2.2
  generalize hNW : nwM l.cur l.rows = NEW at *
  have fe : ∀ k, flat (edV k l.cur) = true := fun k => by unfold edV; split <;> rfl
  simp (maxSteps := 400000) -implicitDefEqProofs [-fcall_eq, -rcall_eq, X_impl_ReadLine, fW, fL, fI, fU, fF, hcl, fe, hr]
  rfl
end Go.Ab
