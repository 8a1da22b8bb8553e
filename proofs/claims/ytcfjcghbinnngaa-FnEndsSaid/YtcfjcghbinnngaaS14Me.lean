/- What the functions of the program answer, for all arguments that the theorems name as conditions. -/
import Derived.Test.YtcfjcghbinnngaaS14Md
import Derived.Test.YtcfjcghbinnngaaFD
set_option linter.unusedVariables false
set_option linter.unusedSimpArgs false
namespace Go.Ab
set_option maxHeartbeats 4000000
def edN (k : Nat) (l : List Int) : Value := if l = [] then nilW else slO k l.length
def edM (l : List Int) : Mem := if l = [] then [] else [ownB eU8 l]
abbrev lnN (k : Nat) (l : LnT) : Value := .agg #[slO k l.rows.length, edN (k + 1) l.cur, .bool l.t, .int .i64 l.n]
def lnNM (l : LnT) : Mem := famB (1 + (edM l.cur).length) 1 (l.rows.map elN) :: (edM l.cur ++ famM eU8 (l.rows.map elN))
theorem s_impl_Line_clone (l : LnT) (hl : l.rows.length < 1000000) (hb : ∀ x ∈ l.rows, x.length < 1000000000) (hc : l.cur.length < 1000000000) : X_impl_Line_clone [lnV l] [] = some (lnN 0 l, lnNM l) := by
  obtain ⟨rows, cur, t, n⟩ := l
  simp only at hl hb hc
  obtain ⟨q, hq⟩ : ∃ q, QQ = q + 1 + rows.length := ⟨QQ - 1 - rows.length, by unfold QQ; omega⟩
  have h := l_impl_clone_rows rows cur t n rows [] (q + 1) (by simpa using hl) hb
  simp only [List.nil_append, List.length_nil] at h
  have hN := famN_N rows
  have hF : (famM eU8 (rows.map elN)).length = famN (rows.map elN) := famM_len eU8 _
  have hX : X_impl_Line_clone [lnV ⟨rows, cur, t, n⟩] [] = L_impl_Line_clone 0 QQ 0 [ptr 0, ptr 1, slO 2 0, frS eBS rows, .int .i64 rows.length, .int .i64 0] [blk [frS eBS rows, frS eU8 cur, .bool t, .int .i64 n], zLn, ownB eBS []] := by
    simp (maxSteps := 400000) -implicitDefEqProofs [X_impl_Line_clone, cutK_eq]
    rfl
  rw [hX, hq]
  refine Eq.trans ?_ (Eq.trans h ?_)
  · rfl
  · by_cases hd : cur = []
    · subst hd
      have hret : ∀ pv b1, retK 0 (blk [slO 2 rows.length, nilW, .bool t, .int .i64 n] :: b1 :: famB 3 1 (rows.map elN) :: famM eU8 (rows.map elN)) pv (.agg #[slO 2 rows.length, nilW, .bool t, .int .i64 n]) = some (lnN 0 ⟨rows, [], t, n⟩, lnNM ⟨rows, [], t, n⟩) := by
        intro pv b1
        have H : Fam eU8 (blk [slO 2 rows.length, nilW, .bool t, .int .i64 n] :: b1 :: famB 3 1 (rows.map elN) :: famM eU8 (rows.map elN)) 2 1 (List.range' 3 (famN (rows.map elN))) (rows.map elN) := Fam.of_row eU8 rfl (fun i x h => by rw [show 3 + i = i + 1 + 1 + 1 by omega]; exact h) (by omega) (ok_N rows)
        obtain ⟨c1, c2⟩ := H.can1 eU8 (by simp; omega)
        exact ret_of c1 c2 (by simp) (by simp [edN])
      have cl0 : ∀ m, cloneV0 1 m (frS eU8 []) = some (nilW, m) := fun m => rfl
      simp (maxSteps := 400000) -implicitDefEqProofs [L_impl_Line_clone, cl0, hret]
    · have cl := fun m => cloneV0_frS eU8 eU8_hard (sz := 1) rfl m cur hd hc
      have hret : ∀ pv b1, retK 0 (blk [slO 2 rows.length, slO (famN (rows.map elN) + 2 + 1) cur.length, .bool t, .int .i64 n] :: b1 :: famB 3 1 (rows.map elN) :: (famM eU8 (rows.map elN) ++ [ownB eU8 cur])) pv (.agg #[slO 2 rows.length, slO (famN (rows.map elN) + 2 + 1) cur.length, .bool t, .int .i64 n]) = some (lnN 0 ⟨rows, cur, t, n⟩, lnNM ⟨rows, cur, t, n⟩) := by
        intro pv b1
        have H : Fam eU8 (blk [slO 2 rows.length, slO (famN (rows.map elN) + 2 + 1) cur.length, .bool t, .int .i64 n] :: b1 :: famB 3 1 (rows.map elN) :: (famM eU8 (rows.map elN) ++ [ownB eU8 cur])) 2 1 (List.range' 3 (famN (rows.map elN))) (rows.map elN) := Fam.of_row eU8 rfl (fun i x h => by
            have := in_row [blk [slO 2 rows.length, slO (famN (rows.map elN) + 2 + 1) cur.length, .bool t, .int .i64 n], b1, famB 3 1 (rows.map elN)] (famM eU8 (rows.map elN)) [ownB eU8 cur] (b := 3) (k := i + 1) (i := i) (n := 3 + i) rfl (by rw [List.getElem?_range' (by omega)]; simp) h
            exact this) (by omega) (ok_N rows)
        have hy := at_row [blk [slO 2 rows.length, slO (famN (rows.map elN) + 2 + 1) cur.length, .bool t, .int .i64 n], b1, famB 3 1 (rows.map elN)] (famM eU8 (rows.map elN)) [ownB eU8 cur] (n := famN (rows.map elN) + 2 + 1) (j := 0) (by simp [hF]; omega) rfl
        obtain ⟨c1, c2⟩ := H.can1y eU8 eU8 (y := famN (rows.map elN) + 2 + 1) (l := cur) hy (by
          refine List.nodup_cons.2 ⟨fun h => ?_, List.nodup_cons.2 ⟨fun h => ?_, List.nodup_range'⟩⟩
          · rcases List.mem_cons.1 h with h | h
            · omega
            · rw [mem_range'] at h; omega
          · rw [mem_range'] at h; omega) (by simp; omega)
        have eM : lnNM ⟨rows, cur, t, n⟩ = famB 2 1 (rows.map elN) :: ownB eU8 cur :: famM eU8 (rows.map elN) := by simp [lnNM, edM, hd]
        rw [eM]
        exact ret_of c1 c2 (by simp) (by simp [edN, hd])
      simp (maxSteps := 400000) -implicitDefEqProofs [L_impl_Line_clone, cl, hF, hret]
end Go.Ab
namespace Go.Ab
set_option maxHeartbeats 4000000
theorem edM_le (cur : List Int) : (edM cur).length ≤ 1 := by unfold edM; split <;> simp
theorem edM_own (cur : List Int) : ∀ b ∈ edM cur, ∃ l : List Int, b = ownB eU8 l := by
  intro b hb
  unfold edM at hb
  split at hb
  · cases hb
  · exact ⟨cur, by simpa using hb⟩
theorem own_all (cur : List Int) (es : List (El Int)) : ∀ i, i < (edM cur ++ famM eU8 es).length → ∃ l : List Int, (edM cur ++ famM eU8 es)[i]? = some (ownB eU8 l) := by
  intro i hi
  have hm := List.getElem_mem hi
  rw [List.getElem?_eq_getElem hi]
  rcases List.mem_append.1 hm with h | h
  · obtain ⟨l, e⟩ := edM_own cur _ h
    exact ⟨l, by rw [e]⟩
  · obtain ⟨j, hj, e⟩ := List.getElem_of_mem h
    obtain ⟨l, e2⟩ := fam_own eU8 es j _ (List.getElem?_eq_getElem hj)
    exact ⟨l, by rw [← e, e2]⟩
theorem elN_okH (x : List Int) : (elN x).okH := ⟨rfl, rfl⟩
theorem okH_N (l : List (List Int)) : ∀ e ∈ l.map elN, e.okH := by
  intro e he
  obtain ⟨x, _, rfl⟩ := List.mem_map.1 he
  exact elN_okH x
theorem mapB_own : ∀ (F : Mem) (f : Blk → Option Blk), (∀ b ∈ F, f b = some b) → mapB f F = some F
  | [], f, h => rfl
  | b :: F, f, h => by
    rw [mapB_cons, h b (by simp), bo_some, mapB_own F f fun x hx => h x (by simp [hx])]
    rfl
theorem f_clone (mm : Mem) (v : Value) (l : LnT) (hz : fz 64 mm v = some (lnV l)) (hl : l.rows.length < 1000000) (hb : ∀ x ∈ l.rows, x.length < 1000000000) (hc : l.cur.length < 1000000000) : fcall X_impl_Line_clone [v] mm = some (.agg #[slO mm.length l.rows.length, edN (mm.length + 1) l.cur, .bool l.t, .int .i64 l.n], mm ++ (famB (mm.length + 1 + (edM l.cur).length) 1 (l.rows.map elN) :: (edM l.cur ++ famM eU8 (l.rows.map elN)))) := by
  have hX := s_impl_Line_clone l hl hb hc
  have hE := edM_le l.cur
  have hlen : (lnNM l).length = 1 + (edM l.cur).length + famN (l.rows.map elN) := by simp [lnNM]; omega
  have hv : rnV 8 hard (sft mm.length (lnNM l).length) (lnN 0 l) = some (.agg #[slO mm.length l.rows.length, edN (mm.length + 1) l.cur, .bool l.t, .int .i64 l.n]) := by
    rw [hlen]
    unfold edN
    by_cases hd : l.cur = []
    · have : 0 < 1 + (edM l.cur).length + famN (l.rows.map elN) := by omega
      simp [hd, edN, edM]
    · have e1 : (edM l.cur).length = 1 := by unfold edM; rw [if_neg hd]; rfl
      rw [e1]
      have : 0 < 1 + 1 + famN (l.rows.map elN) := by omega
      have : 1 < 1 + 1 + famN (l.rows.map elN) := by omega
      simp [hd, edN]
      exact ⟨by omega, by omega⟩
  have hm : mapB (shB mm.length (lnNM l).length) (lnNM l) = some (famB (mm.length + 1 + (edM l.cur).length) 1 (l.rows.map elN) :: (edM l.cur ++ famM eU8 (l.rows.map elN))) := by
    rw [hlen]
    unfold lnNM
    have h1 : shB mm.length (1 + (edM l.cur).length + famN (l.rows.map elN)) (famB (1 + (edM l.cur).length) 1 (l.rows.map elN)) = some (famB (mm.length + 1 + (edM l.cur).length) 1 (l.rows.map elN)) := by
      have hr := fam_rnH eU8 (j := 7) (π := sft mm.length (1 + (edM l.cur).length + famN (l.rows.map elN))) (l.rows.map elN) (1 + (edM l.cur).length) (mm.length + 1 + (edM l.cur).length) (ok_N l.rows) (okH_N l.rows) (fun i hi => by unfold sft; rw [if_pos (by omega)]; congr 1; omega)
      unfold shB famB
      rw [if_pos ⟨rfl, rfl⟩]
      split
      · rename_i h
        rw [famX_zero _ (1 + (edM l.cur).length) (mm.length + 1 + (edM l.cur).length) (fam_hard _ _ h)]
      · rw [hr]; rfl
    rw [mapB_cons, h1, bo_some, mapB_own _ _ (fun b hb => by
      obtain ⟨i, hi, rfl⟩ := List.getElem_of_mem hb
      obtain ⟨x, e⟩ := own_all l.cur (l.rows.map elN) i hi
      rw [List.getElem?_eq_getElem hi] at e
      rw [Option.some.inj e]
      exact shB_own eU8 eU8_hard _ _ x)]
    rfl
  have ha : mapO (fz 64 mm) [v] = some [lnV l] := mapO1 hz
  rw [fcall_eq, ha, bo_some, hX, bo_some, hv, bo_some, hm, bo_some]
end Go.Ab
namespace Go.Ab
set_option maxHeartbeats 4000000
theorem low_mono {N M n n' : Nat} (h : N ≤ M) (e : low N n = some n') : low M n = some n' := by
  obtain ⟨e1, e2⟩ := low_some e
  subst e1
  unfold low
  rw [if_pos (by omega)]
theorem low_at {N n : Nat} (h : n < N) : low N n = some n := if_pos h
theorem Closed.app {m : Mem} {b : Blk} (H : Closed m) (hb : b.live = true → RNL inert (low (m.length + 1)) b.cells b.cells) : Closed (m ++ [b]) := by
  intro n c hc hl
  rw [List.length_append, List.length_singleton]
  rcases Nat.lt_or_ge n m.length with h | h
  · rw [List.getElem?_append_left h] at hc
    exact (H n c hc hl).sub fun n n' e => low_mono (Nat.le_succ _) e
  · rw [List.getElem?_append_right h] at hc
    have := (List.getElem?_eq_some_iff.1 hc).1
    have e : n - m.length = 0 := by simp at this; omega
    rw [e] at hc
    cases hc
    exact hb hl
theorem Closed.set {m : Mem} {b : Blk} (H : Closed m) (k : Nat) (hb : b.live = true → RNL inert (low m.length) b.cells b.cells) : Closed (m.set k b) := by
  intro n c hc hl
  rw [List.length_set]
  by_cases e : k = n
  · subst e
    have hk := (List.getElem?_eq_some_iff.1 hc).1
    rw [List.length_set] at hk
    rw [List.getElem?_set_self hk] at hc
    cases hc
    exact hb hl
  · rw [List.getElem?_set_ne e] at hc
    exact H n c hc hl
theorem own_low {α : Type} (E : Enc α) (N : Nat) (l : List α) : RNL inert (low N) (ownB E l).cells (ownB E l).cells := .leaf (by rw [ownB_cells, List.all_eq_true]; exact fun v hv => scal_inert v (List.all_eq_true.1 (cellsE_all E l) v hv))
theorem sl_low {N n : Nat} (h : n < N) (o len c : Nat) : RN inert (low N) (slQ n o len c) (slQ n o len c) := .sl n n o len c (low_at h)
theorem ptr_low {N n : Nat} (h : n < N) (o : Nat) : RN inert (low N) (.pointer (some ⟨n, o, none⟩)) (.pointer (some ⟨n, o, none⟩)) := .ptr n n o (low_at h)
inductive Sl (m : Mem) : Value → List Int → List Nat → Prop where
  | nil : Sl m nilW [] []
  | own (e c : Nat) (l j : List Int) : m[e]? = some (ownB eU8 (l ++ j)) → l.length ≤ c → Sl m (slQ e 0 l.length c) l [e]
theorem Sl.agree {m m' : Mem} {v : Value} {l : List Int} {ns : List Nat} (H : Sl m v l ns) (h : ∀ n ∈ ns, m'[n]? = m[n]?) : Sl m' v l ns := by
  cases H with
  | nil => exact .nil
  | own e c l j h1 h2 => exact .own e c l j (by rw [h e (by simp)]; exact h1) h2
theorem Sl.lt {m : Mem} {v : Value} {l : List Int} {ns : List Nat} (H : Sl m v l ns) : ∀ n ∈ ns, n < m.length := by
  cases H with
  | nil => intro n hn; cases hn
  | own e c l j h1 h2 =>
    intro n hn
    simp at hn
    subst hn
    exact (List.getElem?_eq_some_iff.1 h1).1
theorem Sl.low {m : Mem} {v : Value} {l : List Int} {ns : List Nat} (H : Sl m v l ns) {N : Nat} (hN : ∀ n ∈ ns, n < N) : RN inert (low N) v v := by
  cases H with
  | nil => exact .inert _ rfl
  | own e c l j h1 h2 => exact sl_low (hN e (by simp)) _ _ _
theorem Sl.fz {m : Mem} {v : Value} {l : List Int} {ns : List Nat} (H : Sl m v l ns) (k : Nat) : fz (k + 3) m v = some (frS eU8 l) := by
  cases H with
  | nil => rfl
  | own e c l j h1 h2 =>
    rw [fz_slO, h1]
    exact hE l j (k + 1) m
theorem Sl.len {m : Mem} {v : Value} {l : List Int} {ns : List Nat} (H : Sl m v l ns) : lenX v = some (.int .i64 l.length) := by
  cases H with
  | nil => rfl
  | own e c l j h1 h2 => rfl
theorem Sl.val {m : Mem} {v : Value} {l : List Int} {ns : List Nat} (H : Sl m v l ns) : v.cells = #[v] ∧ flat v = true := by
  cases H with
  | nil => exact ⟨rfl, rfl⟩
  | own e c l j h1 h2 => exact ⟨rfl, rfl⟩
def Bs (m : Mem) (u : Value) (d : List Int) : Prop := ∃ k, u = slO k d.length ∧ m[k]? = some (ownB eU8 d)
theorem rdM_u8 (d : List Int) : rdM (some (ownB eU8 d)) 0 (d.length * 1) = some (cellsE eU8 d) := rdM_own eU8 d _ rfl
theorem u8_cat (c d : List Int) : (⟨cellsE eU8 c ++ cellsE eU8 d, 1, true, true⟩ : Blk) = ownB eU8 (c ++ d) := by
  rw [← cellsE_append]
  rfl
theorem Sl.app {m : Mem} {v u : Value} {l d : List Int} {ns : List Nat} (H : Sl m v l ns) (hu : Bs m u d) (hd : d ≠ []) (hl : l.length + d.length < 1000000000) (hc : Closed m) : ∃ m', apL m 1 1 v u = some (slO m.length (l.length + d.length), m') ∧ Sl m' (slO m.length (l.length + d.length)) (l ++ d) [m.length] ∧ m'.length = m.length + 1 ∧ (∀ n, n < m.length → n ∉ ns → m'[n]? = m[n]?) ∧ Closed m' := by
  obtain ⟨k, rfl, hk⟩ := hu
  have hp := List.length_pos_iff.2 hd
  cases H with
  | nil =>
    refine ⟨m ++ [ownB eU8 d], ?_, ?_, by simp, fun n hn _ => List.getElem?_append_left hn, hc.app fun _ => own_low _ _ _⟩
    · show (ob (rd m k 0 (d.length * 1)) fun cs => appendIn m 1 1 (.slice none 0 0) cs d.length) = _
      rw [rd_rdM, hk, rdM_u8, ob_some]
      show (if d.length = 0 then _ else if d.length * 1 ≤ 140737488355328 ∧ d.length ≤ 140737488355328 then _ else none) = _
      have hl' : d.length < 1000000000 := by simpa using hl
      rw [if_neg (by omega), if_pos ⟨by omega, by omega⟩]
      simp only [List.length_nil, Nat.zero_add]
      rfl
    · have := Sl.own (m := m ++ [ownB eU8 d]) m.length d.length d [] (by simp) (Nat.le_refl _)
      simpa using this
  | own e c l j h1 h2 =>
    refine ⟨m.set e ⟨cellsE eU8 (l ++ j), 1, true, false⟩ ++ [ownB eU8 (l ++ d)], ?_, ?_, by simp, fun n hn hne => ?_, ?_⟩
    · rw [apL_sl hl (by omega), hk, rdM_u8, bo_some, h1, apB_pre, u8_cat]
    · have := Sl.own (m := m.set e ⟨cellsE eU8 (l ++ j), 1, true, false⟩ ++ [ownB eU8 (l ++ d)]) m.length (l.length + d.length) (l ++ d) [] (by simp) (by simp)
      simpa using this
    · rw [List.getElem?_append_left (by simpa using hn), List.getElem?_set_ne (by intro q; subst q; exact hne (by simp))]
    · refine (hc.set e ?_).app fun _ => own_low _ _ _
      intro h
      cases h
theorem Sl.cut {m : Mem} {v : Value} {l : List Int} {ns : List Nat} (H : Sl m v l ns) (n : Nat) (hn : n < l.length) : ∃ v', slX m 1 v none (some (.int .i64 n)) = some v' ∧ Sl m v' (l.take n) ns := by
  cases H with
  | nil => simp at hn
  | own e c l j h1 h2 =>
    refine ⟨slQ e 0 n c, ?_, ?_⟩
    · have := sl_own m (sz := 1) (n := e) (o := 0) (len := l.length) (c := c) (a := 0) (b := n) (lo := none) (hi := some (.int .i64 n)) (by unfold esOf; rw [h1]; rfl) rfl (bnd_nat .i64 n _) (by omega) (by omega) (by omega)
      simpa using this
    · have h : (l.take n).length = n := by simp; omega
      have := Sl.own (m := m) e c (l.take n) (l.drop n ++ j) (by rw [← List.append_assoc, List.take_append_drop]; exact h1) (by rw [h]; omega)
      rwa [h] at this
theorem Sl.at {m : Mem} {v : Value} {l : List Int} {ns : List Nat} (H : Sl m v l ns) (n : Nat) (hn : n < l.length) (hl : l.length < 1000000000) : ∃ p, ixaX 1 v (.int .i64 n) = some p ∧ ld1 m p = some (.int .u8 (gt l n)) := by
  cases H with
  | nil => simp at hn
  | own e c l j h1 h2 =>
    refine ⟨.pointer (some ⟨e, n, none⟩), ?_, ?_⟩
    · have := ixa_sl (sz := 1) .i64 (n := e) (o := 0) (len := l.length) (c := c) (j := (n : Int)) (by omega) (by omega)
      simpa using this
    · have := cell_at eU8 (l := l ++ j) (i := n) (o := 0) (by simp; omega) (by decide)
      rw [show gt (l ++ j) n = gt l n by simp [gt, List.getElem?_append_left hn]] at this
      simp [h1]
      simpa using this
end Go.Ab
namespace Go.Ab
set_option maxHeartbeats 4000000
def elP : EdT → El Int
  | none => ⟨[], .no nilW, []⟩
  | some (l, j, c) => ⟨[], .ow [] l j 0 c, []⟩
theorem elP_ok (E : EdT) : (elP E).ok eU8 := by
  rcases E with _ | ⟨l, j, c⟩
  · exact ⟨rfl, rfl, .inl rfl⟩
  · exact ⟨rfl, rfl, fun _ => rfl⟩
theorem ok_P (ps : List EdT) : ∀ e ∈ ps.map elP, e.ok eU8 := by
  intro e he
  obtain ⟨x, _, rfl⟩ := List.mem_map.1 he
  exact elP_ok x
theorem elP_n (E : EdT) : (elP E).p.n ≤ 1 := by rcases E with _ | ⟨l, j, c⟩ <;> simp [elP, Pc.n]
theorem famN_P (ps : List EdT) : famN (ps.map elP) ≤ ps.length := by
  induction ps with
  | nil => exact Nat.le_refl _
  | cons x r ih =>
    have := elP_n x
    simp only [List.map_cons, famN, List.length_cons]
    omega
theorem elP_sz (E : EdT) : (elP E).a.length + 1 + (elP E).b.length = 1 := by rcases E with _ | ⟨l, j, c⟩ <;> rfl
theorem fro_P (ps : List EdT) : (ps.map elP).flatMap (El.fro eU8) = cellsE eBS (ps.map oE) := by
  induction ps with
  | nil => rfl
  | cons x r ih =>
    have e : El.fro eU8 (elP x) = [frS eU8 (oE x)] := by rcases x with _ | ⟨l, j, c⟩ <;> rfl
    rw [List.map_cons, List.flatMap_cons, e, ih, List.map_cons, cellsE_cons]
    rfl
theorem Fam.agree {α : Type} {E : Enc α} {m m' : Mem} {j s : Nat} {ix : List Nat} {es : List (El α)} (H : Fam E m j s ix es) (h : ∀ n ∈ j :: ix, m'[n]? = m[n]?) : Fam E m' j s ix es where
  out := by rw [h j (by simp)]; exact H.out
  len := H.len
  nod := H.nod
  inn i n b h1 h2 := by rw [h n (List.mem_cons_of_mem _ (List.mem_of_getElem? h1))]; exact H.inn i n b h1 h2
  ok := H.ok
theorem Fam.lt {α : Type} {E : Enc α} {m : Mem} {j s : Nat} {ix : List Nat} {es : List (El α)} (H : Fam E m j s ix es) : ∀ n ∈ j :: ix, n < m.length := by
  intro n hn
  rcases List.mem_cons.1 hn with rfl | hn
  · exact (List.getElem?_eq_some_iff.1 H.out).1
  · obtain ⟨l, h⟩ := H.own E n hn
    exact (List.getElem?_eq_some_iff.1 h).1
structure Rs (m : Mem) (v : Value) (rows : List (List Int)) (r : Nat) (ix : List Nat) (ps : List EdT) (c : Nat) : Prop where
  val : v = slQ r 0 ps.length c
  fam : Fam eU8 m r 1 ix (ps.map elP)
  rows : rows = ps.map oE
theorem Rs.agree {m m' : Mem} {v : Value} {rows : List (List Int)} {r : Nat} {ix : List Nat} {ps : List EdT} {c : Nat} (H : Rs m v rows r ix ps c) (h : ∀ n ∈ r :: ix, m'[n]? = m[n]?) : Rs m' v rows r ix ps c := ⟨H.val, H.fam.agree h, H.rows⟩
theorem Rs.len {m : Mem} {v : Value} {rows : List (List Int)} {r : Nat} {ix : List Nat} {ps : List EdT} {c : Nat} (H : Rs m v rows r ix ps c) : rows.length = ps.length := by rw [H.rows, List.length_map]
theorem Rs.low {m : Mem} {v : Value} {rows : List (List Int)} {r : Nat} {ix : List Nat} {ps : List EdT} {c : Nat} (H : Rs m v rows r ix ps c) {N : Nat} (hN : r < N) : RN inert (low N) v v := by rw [H.val]; exact sl_low hN _ _ _
theorem Rs.fz {m : Mem} {v : Value} {rows : List (List Int)} {r : Nat} {ix : List Nat} {ps : List EdT} {c : Nat} (H : Rs m v rows r ix ps c) (hl : rows.length < 1000000) (k : Nat) : fz (k + 3) m v = some (frS eBS rows) := by
  have hN := famN_P ps
  have hL := H.len
  have hx := H.fam.len
  obtain ⟨h1, h2⟩ := H.fam.can1 eU8 (by omega)
  have hh : Has m v (r :: ix) (slQ 0 0 ps.length c) (famB 1 1 (ps.map elP) :: famM eU8 (ps.map elP)) := by
    rw [H.val]
    exact has_of h1 h2 (by simp)
  have := fz_can eU8 (k := k) (s := 1) (c := c) (ok_P ps) (fun e he => by obtain ⟨x, _, rfl⟩ := List.mem_map.1 he; exact elP_sz x)
  rw [List.length_map, fro_P] at this
  rw [hh.fz this, H.rows]
  congr 1
  unfold frS
  rw [List.length_map]
theorem Rs.app {m : Mem} {v ev : Value} {rows : List (List Int)} {r k : Nat} {ix ne : List Nat} {ps : List EdT} {c : Nat} {cur : List Int} (H : Rs m v rows r ix ps c) (He : Sl m ev cur ne) (hk : m[k]? = some ⟨[ev], 1, true, true⟩) (hn : (r :: (ix ++ ne)).Nodup) (hl : rows.length < 1000000) (hc : Closed m) : ∃ m' E, apL m 1 24 v (slQ k 0 1 1) = some (slO m.length (rows.length + 1), m') ∧ Rs m' (slO m.length (rows.length + 1)) (rows ++ [cur]) m.length (ix ++ ne) (ps ++ [E]) (rows.length + 1) ∧ oE E = cur ∧ m'.length = m.length + 1 ∧ (∀ n, n < m.length → n ≠ r → m'[n]? = m[n]?) ∧ Closed m' := by
  have hL := H.len
  have hr := (List.getElem?_eq_some_iff.1 H.fam.out).1
  have hci := hc r _ H.fam.out rfl
  have hcn := He.low (N := m.length + 1) (fun n hn => Nat.lt_succ_of_lt (He.lt n hn))
  obtain ⟨hr1, hr2⟩ := List.nodup_cons.1 hn
  have hlen : (famI ix (ps.map elP)).length = ps.length := by
    have : ∀ (es : List (El Int)) (ix : List Nat), (∀ e ∈ es, e.a.length + 1 + e.b.length = 1) → (famI ix es).length = es.length := by
      intro es
      induction es with
      | nil => intro ix _; rfl
      | cons e es ih =>
        intro ix h
        have h0 := h e (by simp)
        rw [famI, List.length_append, List.length_cons, List.length_append, ih _ fun x hx => h x (by simp [hx]), List.length_cons]
        omega
    have := this (ps.map elP) ix (fun e he => by obtain ⟨x, _, rfl⟩ := List.mem_map.1 he; exact elP_sz x)
    rw [this, List.length_map]
  obtain ⟨E, hE1, hE2, hE3, hE4⟩ : ∃ E : EdT, oE E = cur ∧ (elP E).p.val (ne.headD 0) = ev ∧ ne.length = (elP E).p.n ∧ ∀ (i : Nat) n b, ne[i]? = some n → ((elP E).p.mem eU8)[i]? = some b → m[n]? = some b := by
    cases He with
    | nil => exact ⟨none, rfl, rfl, rfl, fun i n b h => by simp at h⟩
    | own e cc l j h1 h2 =>
      refine ⟨some (cur, j, cc), rfl, rfl, rfl, fun i n b h3 h4 => ?_⟩
      have hi := (List.getElem?_eq_some_iff.1 h3).1
      have : i = 0 := by simpa using hi
      subst this
      simp at h3
      subst h3
      have h4 : some (ownB eU8 ([] ++ (cur ++ j))) = some b := h4
      rw [← h4, h1]
      rfl
  have he0 : elP E = ⟨[], (elP E).p, []⟩ := by rcases E with _ | ⟨l, j, c⟩ <;> rfl
  have hrd : fzO.rdB ⟨famI ix (ps.map elP), 1, true, true⟩ 0 (ps.length * 1) = some (famI ix (ps.map elP)) := rdB_all (by rw [hlen]; omega)
  refine ⟨m.set r ⟨famI ix (ps.map elP), 1, true, false⟩ ++ [⟨famI ix (ps.map elP) ++ [ev], 1, true, true⟩], E, ?_, ⟨?_, ?_, ?_⟩, hE1, by simp, fun n h1 h2 => ?_, ?_⟩
  · rw [H.val, apL_sl (by omega) (by omega), hk]
    have e1 : rdM (some ⟨[ev], 1, true, true⟩) 0 (1 * 1) = some [ev] := rfl
    rw [e1, bo_some, H.fam.out]
    unfold apB
    simp only
    rw [if_pos ⟨trivial, trivial, trivial⟩, hrd, ob_some, hL]
  · rw [List.length_append, List.length_singleton, hL]
  · rw [List.map_append, List.map_cons, List.map_nil]
    refine Fam.snoc eU8 (j := r) (m := m) H.fam.len (ok_P ps) (elP_ok E) (fun i n b h1 h2 => ?_) (fun i n b h1 h2 => ?_) hE3 ?_ (cs := famI ix (ps.map elP) ++ [ev]) ?_ (by simp)
    · have h3 := H.fam.inn i n b h1 h2
      have h4 := (List.getElem?_eq_some_iff.1 h3).1
      rw [List.getElem?_append_left (by simpa using h4), List.getElem?_set_ne (fun e => hr1 (by subst e; simp [List.mem_of_getElem? h1]))]
      exact h3
    · have h3 := hE4 i n b h1 h2
      have h4 := (List.getElem?_eq_some_iff.1 h3).1
      rw [List.getElem?_append_left (by simpa using h4), List.getElem?_set_ne (fun e => hr1 (by subst e; simp [List.mem_of_getElem? h1]))]
      exact h3
    · refine List.nodup_cons.2 ⟨fun h => ?_, hr2⟩
      rcases List.mem_append.1 h with h | h
      · have := H.fam.lt _ (List.mem_cons_of_mem _ h); omega
      · have := He.lt _ h; omega
    · rw [he0]
      simp only [List.nil_append]
      rw [hE2]
  · rw [H.rows, List.map_append, List.map_cons, List.map_nil, hE1]
  · rw [List.getElem?_append_left (by simpa using h1), List.getElem?_set_ne (fun e => h2 e.symm)]
  · refine (hc.set r (fun h => by cases h)).app fun _ => ?_
    rw [List.length_set]
    have h1 : RNL inert (Go.Ab.low (m.length + 1)) (famI ix (ps.map elP)) (famI ix (ps.map elP)) := hci.sub fun n n' e => low_mono (Nat.le_succ _) e
    refine ⟨rfl, fun i x y hx hy => ?_⟩
    rw [hx] at hy
    cases hy
    rcases Nat.lt_or_ge i (famI ix (ps.map elP)).length with h | h
    · rw [List.getElem?_append_left h] at hx
      exact h1.2 i x x hx hx
    · rw [List.getElem?_append_right h] at hx
      have h2 := (List.getElem?_eq_some_iff.1 hx).1
      have e : i - (famI ix (ps.map elP)).length = 0 := by simp at h2; omega
      rw [e] at hx
      cases hx
      exact hcn
end Go.Ab
namespace Go.Ab
set_option maxHeartbeats 4000000
abbrev fdB (w : WayT) (rv ev : Value) (t : Bool) (n : Int) (hv : Value) : Blk := blk (wayT w [rv, ev, .bool t, .int .i64 n, hv])
structure FdS (m : Mem) (b : Nat) (w : WayT) (l : LnT) (ec : List Int) (rv ev hv : Value) (r : Nat) (ix ne nh : List Nat) (ps : List EdT) (c : Nat) : Prop where
  box : m[b]? = some (fdB w rv ev l.t l.n hv)
  rs : Rs m rv l.rows r ix ps c
  es : Sl m ev l.cur ne
  hs : Sl m hv ec nh
  nod : (b :: r :: (ix ++ (ne ++ nh))).Nodup
  cl : Closed m
structure Tr (m m' : Mem) (ns ns' : List Nat) : Prop where
  len : m.length ≤ m'.length
  same : ∀ n, n < m.length → n ∉ ns → m'[n]? = m[n]?
  nam : ∀ n ∈ ns', n ∈ ns ∨ m.length ≤ n
theorem Tr.trans {m m' m'' : Mem} {ns ns' ns'' : List Nat} (A : Tr m m' ns ns') (B : Tr m' m'' ns' ns'') : Tr m m'' ns ns'' where
  len := Nat.le_trans A.len B.len
  same n h1 h2 := by
    rw [B.same n (Nat.lt_of_lt_of_le h1 A.len) (fun h => (A.nam n h).elim h2 fun h => by omega), A.same n h1 h2]
  nam n h := by
    rcases B.nam n h with h | h
    · exact A.nam n h
    · exact .inr (Nat.le_trans A.len h)
theorem Tr.refl (m : Mem) (ns : List Nat) : Tr m m ns ns := ⟨Nat.le_refl _, fun _ _ _ => rfl, fun n h => .inl h⟩
theorem Tr.app {m m' : Mem} {b : Blk} {ns ns' : List Nat} (A : Tr (m ++ [b]) m' ns ns') : Tr m m' ns ns' where
  len := by have := A.len; simp at this; omega
  same n h1 h2 := by rw [A.same n (by simp; omega) h2, List.getElem?_append_left h1]
  nam n h := by
    rcases A.nam n h with h | h
    · exact .inl h
    · simp at h; exact .inr (by omega)
def Fd (m : Mem) (b : Nat) (w : WayT) (l : LnT) (ec : List Int) (ns : List Nat) : Prop := ∃ rv ev hv r ix ne nh ps c, ns = b :: r :: (ix ++ (ne ++ nh)) ∧ FdS m b w l ec rv ev hv r ix ne nh ps c
theorem FdS.lt {m : Mem} {b : Nat} {w : WayT} {l : LnT} {ec : List Int} {rv ev hv : Value} {r : Nat} {ix ne nh : List Nat} {ps : List EdT} {c : Nat} (H : FdS m b w l ec rv ev hv r ix ne nh ps c) : ∀ n ∈ b :: r :: (ix ++ (ne ++ nh)), n < m.length := by
  intro n hn
  simp only [List.mem_cons, List.mem_append] at hn
  rcases hn with rfl | rfl | h | h | h
  · exact (List.getElem?_eq_some_iff.1 H.box).1
  · exact H.rs.fam.lt _ (by simp)
  · exact H.rs.fam.lt _ (by simp [h])
  · exact H.es.lt _ h
  · exact H.hs.lt _ h
theorem Fd.lt {m : Mem} {b : Nat} {w : WayT} {l : LnT} {ec : List Int} {ns : List Nat} (H : Fd m b w l ec ns) : ∀ n ∈ ns, n < m.length := by
  obtain ⟨rv, ev, hv, r, ix, ne, nh, ps, c, rfl, H⟩ := H
  exact H.lt
theorem Fd.mem {m : Mem} {b : Nat} {w : WayT} {l : LnT} {ec : List Int} {ns : List Nat} (H : Fd m b w l ec ns) : b ∈ ns := by
  obtain ⟨rv, ev, hv, r, ix, ne, nh, ps, c, rfl, H⟩ := H
  simp
theorem Fd.cl {m : Mem} {b : Nat} {w : WayT} {l : LnT} {ec : List Int} {ns : List Nat} (H : Fd m b w l ec ns) : Closed m := by
  obtain ⟨rv, ev, hv, r, ix, ne, nh, ps, c, rfl, H⟩ := H
  exact H.cl
theorem Fd.app {m : Mem} {b : Nat} {w : WayT} {l : LnT} {ec : List Int} {ns : List Nat} (H : Fd m b w l ec ns) (x : Blk) (hx : x.live = true → RNL inert (low (m.length + 1)) x.cells x.cells) : Fd (m ++ [x]) b w l ec ns := by
  obtain ⟨rv, ev, hv, r, ix, ne, nh, ps, c, rfl, H⟩ := H
  have ag : ∀ n ∈ b :: r :: (ix ++ (ne ++ nh)), (m ++ [x])[n]? = m[n]? := fun n hn => List.getElem?_append_left (H.lt n hn)
  refine ⟨rv, ev, hv, r, ix, ne, nh, ps, c, rfl, by rw [ag b (by simp)]; exact H.box, H.rs.agree fun n hn => ag n ?_, H.es.agree fun n hn => ag n ?_, H.hs.agree fun n hn => ag n ?_, H.nod, H.cl.app hx⟩
  · simp only [List.mem_cons, List.mem_append] at hn ⊢
    rcases hn with h | h <;> simp [h]
  · simp [hn]
  · simp [hn]
theorem rebox {m : Mem} {b : Nat} {w : WayT} {B0 : Blk} {rows : List (List Int)} {cur ec : List Int} {t : Bool} {n : Int} {rv ev hv : Value} {r : Nat} {ix ne nh : List Nat} {ps : List EdT} {c : Nat} (hb : m[b]? = some B0) (h1 : Rs m rv rows r ix ps c) (h2 : Sl m ev cur ne) (h3 : Sl m hv ec nh) (hn : (b :: r :: (ix ++ (ne ++ nh))).Nodup) (hc : Closed m) : FdS (m.set b (fdB w rv ev t n hv)) b w ⟨rows, cur, t, n⟩ ec rv ev hv r ix ne nh ps c := by
  obtain ⟨hn1, hn2⟩ := List.nodup_cons.1 hn
  have hlt := (List.getElem?_eq_some_iff.1 hb).1
  have ag : ∀ x ∈ r :: (ix ++ (ne ++ nh)), (m.set b (fdB w rv ev t n hv))[x]? = m[x]? := fun x hx => List.getElem?_set_ne (fun e => hn1 (by rw [e]; exact hx))
  refine ⟨List.getElem?_set_self hlt, h1.agree fun n hn => ag n ?_, h2.agree fun n hn => ag n ?_, h3.agree fun n hn => ag n ?_, hn, hc.set b fun _ => ?_⟩
  · simp only [List.mem_cons, List.mem_append] at hn ⊢
    rcases hn with h | h <;> simp [h]
  · simp [hn]
  · simp [hn]
  · have i : ∀ k n, RN inert (low m.length) (.int k n) (.int k n) := fun k n => .inert _ rfl
    exact .cons (i _ _) (.cons (i _ _) (.cons (i _ _) (.cons (i _ _) (.cons (i _ _) (.cons (i _ _) (.cons (i _ _) (.cons (h1.low (h1.fam.lt r (by simp))) (.cons (h2.low h2.lt) (.cons (.inert _ rfl) (.cons (i _ _) (.cons (h3.low h3.lt) .nil)))))))))))
def pw2 (k : Int) : Prop := ∀ a, andI .i64 a k = 0 ∨ andI .i64 a k = k
theorem andk (j : Nat) (hj : j < 10) : pw2 (2 ^ j : Nat) := by
  intro a
  have h : ∀ x : BitVec 64, (x &&& BitVec.ofInt 64 ((2 ^ j : Nat) : Int)) = 0#64 ∨ (x &&& BitVec.ofInt 64 ((2 ^ j : Nat) : Int)) = BitVec.ofInt 64 ((2 ^ j : Nat) : Int) := by
    intro x
    have hk : BitVec.ofInt 64 ((2 ^ j : Nat) : Int) = BitVec.twoPow 64 j := by
      apply BitVec.eq_of_toNat_eq
      rw [BitVec.ofInt_natCast, BitVec.toNat_ofNat, BitVec.toNat_twoPow]
    rw [hk, BitVec.and_twoPow]
    cases x.getLsbD j with
    | true => exact .inr (by simp)
    | false => exact .inl (by simp)
  unfold andI
  rcases h (BitVec.ofInt 64 a) with e | e
  · left
    show IntKind.i64.wrap ((BitVec.ofInt 64 a &&& BitVec.ofInt 64 ((2 ^ j : Nat) : Int)).toNat : Int) = 0
    rw [e]
    rfl
  · right
    show IntKind.i64.wrap ((BitVec.ofInt 64 a &&& BitVec.ofInt 64 ((2 ^ j : Nat) : Int)).toNat : Int) = _
    rw [e]
    have : ∀ j, j < 10 → IntKind.i64.wrap ((BitVec.ofInt 64 ((2 ^ j : Nat) : Int)).toNat : Int) = ((2 ^ j : Nat) : Int) := by decide
    exact this j hj
theorem s_impl_hasG (w : WayT) (k : Int) (hk : pw2 k) (h0 : k ≠ 0) : X_impl_Way_has [wayV w, .int .i64 k] [] = some (.bool (hs w k), []) := by
  have h0' : ¬ (0 = k) := fun e => h0 e.symm
  rcases hk w.a with h | h <;> simp -implicitDefEqProofs [X_impl_Way_has, retK_eq, hs, h, h0, h0']
theorem k1_ : pw2 1 := andk 0 (by omega)
theorem k2_ : pw2 2 := andk 1 (by omega)
theorem k4_ : pw2 4 := andk 2 (by omega)
theorem k8_ : pw2 8 := andk 3 (by omega)
theorem k16_ : pw2 16 := andk 4 (by omega)
theorem k32_ : pw2 32 := andk 5 (by omega)
theorem k64_ : pw2 64 := andk 6 (by omega)
theorem f_has (w : WayT) (k : Int) (hk : pw2 k) (h0 : k ≠ 0) (m : Mem) : fcall X_impl_Way_has [wayV w, .int .i64 k] m = some (.bool (hs w k), m) := f_ask (mapO2 (by simp) (by simp)) (s_impl_hasG w k hk h0) rfl
theorem s_impl_shown (w : WayT) (b : Int) : X_impl_Way_shown [wayV w, .int .u8 b] [] = some (slO 0 (shS w b).length, [ownB eU8 (shS w b)]) := by
  have c1 := s_impl_hasG w 16 k16_ (by omega)
  by_cases h1 : b < 32
  · by_cases h2 : b = 9
    · subst h2
      cases h : hs w 16 <;> simp -implicitDefEqProofs [X_impl_Way_shown, retK_eq, c1, h, shS, hid, xo] <;> rfl
    · by_cases h3 : b = 10
      · subst h3
        cases h : hs w 16 <;> simp -implicitDefEqProofs [X_impl_Way_shown, retK_eq, c1, h, shS, hid, xo] <;> rfl
      · cases h : hs w 16 <;> simp -implicitDefEqProofs [X_impl_Way_shown, retK_eq, c1, h, h1, h2, h3, shS, hid, xo] <;> rfl
  · by_cases h2 : b = 127
    · subst h2
      cases h : hs w 16 <;> simp -implicitDefEqProofs [X_impl_Way_shown, retK_eq, c1, h, shS, hid, xo] <;> rfl
    · cases h : hs w 16 <;> simp -implicitDefEqProofs [X_impl_Way_shown, retK_eq, c1, h, h1, h2, shS, hid, xo] <;> rfl
theorem f_shown (w : WayT) (b : Int) (m : Mem) : fcall X_impl_Way_shown [wayV w, .int .u8 b] m = some (slO m.length (shS w b).length, m ++ [ownB eU8 (shS w b)]) := by
  have c := s_impl_shown w b
  simp [c]
theorem s_impl_is (n b : Int) (h0 : 0 ≤ b) (h1 : b < 256) : X_impl_is [.int .u8 b, .int .i64 n] [] = some (.bool (isS n b), []) := by
  have hw : IntKind.i64.wrap b = b := wrap_i64 (by omega) (by omega)
  by_cases h : n = 0
  · simp -implicitDefEqProofs [X_impl_is, retK_eq, isS, h]
  · by_cases h2 : b = n
    · subst h2
      simp -implicitDefEqProofs [X_impl_is, retK_eq, isS, h, hw]
    · have h3 : ¬ n = b := fun e => h2 e.symm
      simp -implicitDefEqProofs [X_impl_is, retK_eq, isS, h, hw, h2, h3]
theorem f_isP (n b : Int) (h0 : 0 ≤ b) (h1 : b < 256) (m : Mem) : fcall X_impl_is [.int .u8 b, .int .i64 n] m = some (.bool (isS n b), m) := f_ask (mapO2 (by simp) (by simp)) (s_impl_is n b h0 h1) rfl
end Go.Ab
namespace Go.Ab
set_option maxHeartbeats 4000000
abbrev fdP (w : WayT) (l : LnT) (ec : List Int) : Value := roP (wayT w (lnT l [frS eU8 ec]))
theorem FdS.fz {m : Mem} {b : Nat} {w : WayT} {l : LnT} {ec : List Int} {rv ev hv : Value} {r : Nat} {ix ne nh : List Nat} {ps : List EdT} {c : Nat} (H : FdS m b w l ec rv ev hv r ix ne nh ps c) (hl : l.rows.length < 1000000) : fz 64 m (ptr b) = some (fdP w l ec) := by
  have h1 := H.rs.fz hl 60
  have h2 := H.es.fz 60
  have h3 := H.hs.fz 60
  have hb := H.box
  simp [hb, h1, h2, h3]
theorem Fd.fz {m : Mem} {b : Nat} {w : WayT} {l : LnT} {ec : List Int} {ns : List Nat} (H : Fd m b w l ec ns) (hl : l.rows.length < 1000000) : Ab.fz 64 m (ptr b) = some (fdP w l ec) := by
  obtain ⟨rv, ev, hv, r, ix, ne, nh, ps, c, rfl, H⟩ := H
  exact H.fz hl
theorem s_room (w : WayT) (l : LnT) (ec : List Int) (k : Int) (hk0 : 0 ≤ k) (hk : k < 1000) (hs : l.small) (h40 : l.rows.length ≤ 40) : X_impl_feeder_room [fdP w l ec, .int .i64 k] [] = some (.bool (decide ((l.size : Int) + k ≤ 40)), []) := by
  have c := s_impl_Line_size l hs h40
  have hz := size_le hs h40
  have hz : l.size < 1000000000000 := hz
  have hw : IntKind.i64.wrap ((l.size : Int) + k) = (l.size : Int) + k := wrap_i64 (by omega) (by omega)
  generalize l.size = S at *
  simp -implicitDefEqProofs [X_impl_feeder_room, retK_eq, c, hw]
theorem s_piece (w : WayT) (l : LnT) (ec : List Int) : X_impl_feeder_piece [fdP w l ec] [] = some (.bool (decide (l.rows.length < 40)), []) := by
  simp -implicitDefEqProofs [X_impl_feeder_piece, retK_eq]
  omega
theorem Fd.room {m : Mem} {b : Nat} {w : WayT} {l : LnT} {ec : List Int} {ns : List Nat} (H : Fd m b w l ec ns) (k : Int) (hk0 : 0 ≤ k) (hk : k < 1000) (hs : l.small) (h40 : l.rows.length ≤ 40) : fcall X_impl_feeder_room [ptr b, .int .i64 k] m = some (.bool (decide ((l.size : Int) + k ≤ 40)), m) := f_ask (mapO2 (H.fz (by omega)) (by simp)) (s_room w l ec k hk0 hk hs h40) rfl
theorem Fd.piece {m : Mem} {b : Nat} {w : WayT} {l : LnT} {ec : List Int} {ns : List Nat} (H : Fd m b w l ec ns) (h40 : l.rows.length ≤ 40) : fcall X_impl_feeder_piece [ptr b] m = some (.bool (decide (l.rows.length < 40)), m) := f_ask (mapO1 (H.fz (by omega))) (s_piece w l ec) rfl
theorem dc2 {X : List Value → Mem → Option VM} {m : Mem} {b : Nat} {x : Value} (hc : Closed m) (hb : b < m.length) (hx : RN inert (low m.length) x x) : dcall X [ptr b, x] m = X [ptr b, x] m := dcall_eq hc (.cons (ptr_low hb 0) (.cons hx .nil))
theorem dc1 {X : List Value → Mem → Option VM} {m : Mem} {b : Nat} (hc : Closed m) (hb : b < m.length) : dcall X [ptr b] m = X [ptr b] m := dcall_eq hc (.cons (ptr_low hb 0) .nil)
theorem Bs.low {m : Mem} {u : Value} {d : List Int} (h : Bs m u d) : RN inert (low m.length) u u := by
  obtain ⟨k, rfl, hk⟩ := h
  exact sl_low (List.getElem?_eq_some_iff.1 hk).1 _ _ _
theorem nod_last {L X : List Nat} {N : Nat} (h : (L ++ X).Nodup) (hl : ∀ n ∈ L, n < N) : (L ++ [N]).Nodup := by
  rw [List.nodup_append] at h ⊢
  refine ⟨h.1, by simp, fun a ha c hc => ?_⟩
  have := hl a ha
  simp at hc
  omega
theorem d_show {m : Mem} {b : Nat} {w : WayT} {l : LnT} {ec : List Int} {ns : List Nat} (H : Fd m b w l ec ns) {u : Value} {d : List Int} (hu : Bs m u d) (hd : d ≠ []) (hl : ec.length + d.length < 1000000000) : ∃ m' ns', dcall X_impl_feeder_show [ptr b, u] m = some (.tuple #[], m') ∧ Fd m' b w l (if hs w 2 then ec ++ d else ec) ns' ∧ Tr m m' ns ns' := by
  have hb := H.lt b H.mem
  rw [dc2 H.cl hb hu.low]
  have hh := f_has w 2 k2_ (by omega) m
  obtain ⟨rv, ev, hv, r, ix, ne, nh, ps, c, rfl, H⟩ := H
  have hbox := H.box
  cases h2 : hs w 2
  · rw [h2] at hh
    refine ⟨m, _, ?_, ⟨rv, ev, hv, r, ix, ne, nh, ps, c, rfl, H⟩, .refl _ _⟩
    simp -implicitDefEqProofs [-fcall_eq, X_impl_feeder_show, hbox, hh]
  · rw [h2] at hh
    obtain ⟨m1, e1, s1, l1, f1, c1⟩ := H.hs.app hu hd hl H.cl
    have hnd := H.nod
    have hlt := H.lt
    have out : ∀ n ∈ b :: r :: (ix ++ ne), n ∉ nh := by
      intro n hn hm
      have : ((b :: r :: (ix ++ ne)) ++ nh).Nodup := by simpa using hnd
      rw [List.nodup_append] at this
      exact this.2.2 n hn n hm rfl
    have ag : ∀ n ∈ b :: r :: (ix ++ ne), m1[n]? = m[n]? := fun n hn => f1 n (hlt n (by simp only [List.mem_cons, List.mem_append] at hn ⊢; rcases hn with h | h | h | h <;> simp [h])) (out n hn)
    have hb1 : m1[b]? = some (fdB w rv ev l.t l.n hv) := by rw [ag b (by simp)]; exact hbox
    have hnew := rebox (w := w) (t := l.t) (n := l.n) hb1 (H.rs.agree fun n hn => ag n (by simp only [List.mem_cons, List.mem_append] at hn ⊢; rcases hn with h | h <;> simp [h])) (H.es.agree fun n hn => ag n (by simp [hn])) s1 (by
      have h1 : ((b :: r :: (ix ++ ne)) ++ nh).Nodup := by simpa using hnd
      have := nod_last h1 (N := m.length) (fun n hn => hlt n (by simp only [List.mem_cons, List.mem_append] at hn ⊢; rcases hn with h | h | h | h <;> simp [h]))
      simpa using this) c1
    refine ⟨_, _, ?_, ⟨rv, ev, _, r, ix, ne, [m.length], ps, c, rfl, hnew⟩, ?_⟩
    · have e1' : apL m 1 1 hv u = some (slO m.length (ec.length + d.length), m1) := e1
      simp -implicitDefEqProofs [-fcall_eq, X_impl_feeder_show, hbox, hh, e1', hb1]
    · refine ⟨by rw [List.length_set]; omega, fun n h1 h2 => ?_, fun n h => ?_⟩
      · rw [List.getElem?_set_ne (fun e => h2 (by rw [← e]; simp))]
        exact f1 n h1 (fun h => h2 (by simp [h]))
      · simp only [List.mem_cons, List.mem_append] at h ⊢
        rcases h with h | h | h | h | h
        · simp [h]
        · simp [h]
        · simp [h]
        · simp [h]
        · simp at h; omega
theorem shS_len (w : WayT) (b : Int) : (shS w b).length ≤ 2 ∧ shS w b ≠ [] := by
  unfold shS
  split <;> simp
theorem d_showByte {m : Mem} {b : Nat} {w : WayT} {l : LnT} {ec : List Int} {ns : List Nat} (H : Fd m b w l ec ns) (y : Int) (hl : ec.length + 2 < 1000000000) : ∃ m' ns', dcall X_impl_feeder_showByte [ptr b, .int .u8 y] m = some (.tuple #[], m') ∧ Fd m' b w l (ec ++ ecS w y) ns' ∧ Tr m m' ns ns' := by
  have hb := H.lt b H.mem
  rw [dc2 H.cl hb (.inert _ rfl)]
  obtain ⟨hs1, hs2⟩ := shS_len w y
  obtain ⟨m', ns', e, F, T⟩ := d_show (H.app (ownB eU8 (shS w y)) (fun _ => own_low _ _ _)) (u := slO m.length (shS w y).length) (d := shS w y) ⟨m.length, rfl, by simp⟩ hs2 (by omega)
  have hsh := f_shown w y m
  refine ⟨m', ns', ?_, ?_, T.app⟩
  · obtain ⟨rv, ev, hv, r, ix, ne, nh, ps, c, rfl, H⟩ := H
    have hbox := H.box
    generalize shS w y = Q at *
    simp -implicitDefEqProofs [-fcall_eq, X_impl_feeder_showByte, hbox, hsh, e]
  · unfold ecS
    cases h : hs w 2
    · rw [h] at F; simpa using F
    · rw [h] at F; simpa using F
end Go.Ab
