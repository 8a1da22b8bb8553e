/- What the functions of the program answer, for all arguments that the theorems name as conditions. -/
import Derived.Test.YtnmjgjedkdmefaaS12Mj
import Derived.Test.YtnmjgjedkdmefaaS12Mh
import Derived.Test.YtnmjgjedkdmefaaS12Md
import Derived.Test.YtnmjgjedkdmefaaS12Ma
import Derived.Test.YtnmjgjedkdmefaaFC
set_option linter.unusedVariables false
set_option linter.unusedSimpArgs false
namespace Go.Ab
set_option maxHeartbeats 8000000
theorem fz_lo (H E : EdT) (ps : List EdT) (c : Nat) (t : Bool) (n : Int) : fz 64 (loM H E ps) (loV H E ps c t n) = some (lrF 0 false [] (oE H) ⟨ps.map oE, oE E, t, n⟩) := by
  have f1 : fz 63 (loM H E ps) (eV 0 H) = some (frS eU8 (oE H)) := fz_eE 60 _ 0 H fun cc q nn h => by subst h; rfl
  have hj : (loM H E ps)[(eB' H).length]? = some (famB ((eB' H).length + 1 + (eB' E).length) 1 ([] ++ ps.map elP)) := by
    unfold loM
    rw [List.getElem?_append_right (Nat.le_refl _), Nat.sub_self]
    rfl
  have hm : loM H E ps = (eB' H ++ (famB ((eB' H).length + 1 + (eB' E).length) 1 (ps.map elP) :: eB' E)) ++ (famM eU8 (ps.map elP) ++ []) := by
    rw [List.append_nil, List.append_assoc]
    rfl
  have hP : (eB' H ++ (famB ((eB' H).length + 1 + (eB' E).length) 1 (ps.map elP) :: eB' E)).length = (eB' H).length + 1 + (eB' E).length + famN ([] : List (El Int)) := by
    rw [List.length_append, List.length_cons, famN]
    omega
  have f2 : fz 63 (loM H E ps) (slQ (eB' H).length 0 ps.length c) = some (frS eBS (ps.map oE)) := by
    have := fz_partF (k := 60) (c := c) (L := []) (R := ps.map elP) hj hm hP (ok_P ps) (by simp) (fun e he => by obtain ⟨x, _, rfl⟩ := List.mem_map.1 he; exact elP_sz x)
    rw [List.length_map, fro_P] at this
    refine this.trans ?_
    unfold frS
    rw [List.length_map]
  have f3 : fz 63 (loM H E ps) (eV ((eB' H).length + 1) E) = some (frS eU8 (oE E)) := fz_eE 60 _ _ E fun cc q nn h => by
    subst h
    unfold loM
    rw [List.getElem?_append_right (by omega), Nat.add_sub_cancel_left]
    rfl
  rw [fz_agg]
  simp only [mapO, f1, f2, f3]
  rfl
end Go.Ab
namespace Go.Ab
set_option maxHeartbeats 8000000
theorem s_impl_first2 (a b : Int) : X_impl_first [frS eI6 [a, b]] [] = some (.int .i64 (if a = 0 then b else a), []) := by
  rw [s_impl_firstV [a, b] (by simp)]
  simp only [firstV]
  by_cases h1 : a = 0 <;> by_cases h2 : b = 0 <;> simp [h1, h2]
@[simp] theorem fz_two6 (k : Nat) (m : Mem) (a b : Int) : fzO (k + 1) m (some ⟨[.int .i64 a, .int .i64 b], 1, true, true⟩) 0 2 = some (frS eI6 [a, b]) := fzO_own eI6 k m [a, b]
abbrev flA (w : WayT) (l : LnT) (y : Int) : List Value := [wayV w, lnV l, .int .u8 y]
theorem s_impl_FL_bad (w : WayT) (l : LnT) (y : Int) (hl : l.small) (hf : askF w l ≠ 0) : X_impl_FeedLine (flA w l y) [] = some (lrB (askF w l), []) := by
  have c1 := s_impl_WayFault w
  have c2 := s_impl_LineFault l hl
  have c3 := s_impl_first2
  have e : (if wayF w = 0 then lineF l else wayF w) = askF w l := rfl
  by_cases h1 : wayF w = 0
  · rw [if_pos h1] at e
    rw [← e] at hf ⊢
    simp (maxSteps := 400000) -implicitDefEqProofs [X_impl_FeedLine, retK_eq, c1, c2, c3, h1, hf]
  · rw [if_neg h1] at e
    rw [← e] at hf ⊢
    simp (maxSteps := 400000) -implicitDefEqProofs [X_impl_FeedLine, retK_eq, c1, c2, c3, h1, hf]
theorem s_impl_FL (w : WayT) (l : LnT) (y : Int) (hf : askF w l = 0) (hb : (∀ x ∈ l.rows, bOk x) ∧ bOk l.cur) (y0 : 0 ≤ y) (y1 : y < 256) : ∃ hE eE ps c, oE hE = (feedS w l y).2 ∧ oE eE = (feedS w l y).1.cur ∧ ps.map oE = (feedS w l y).1.rows ∧ X_impl_FeedLine (flA w l y) [] = some (loV hE eE ps c (feedS w l y).1.t (feedS w l y).1.n, loM hE eE ps) := by
  have hok := lnOk_ask hf hb
  have hsm := lnOk_small hok
  have c1 := s_impl_WayFault w
  have c2 := s_impl_LineFault l hsm
  have c3 := s_impl_first2
  have h1 : wayF w = 0 := by
    by_cases h : wayF w = 0
    · exact h
    · unfold askF at hf; rw [if_neg h] at hf; exact absurd hf h
  have h2 : lineF l = 0 := by unfold askF at hf; rwa [if_pos h1] at hf
  have hc : Closed [wB w, blk (lnT l []), zR8, ownB eI6 [0, 0], ownB eU8 [y]] := by
    refine (Closed.nil).appL (L := [wB w, blk (lnT l []), zR8, ownB eI6 [0, 0], ownB eU8 [y]]) fun b hb _ => ?_
    simp only [List.mem_cons, List.not_mem_nil, or_false] at hb
    rcases hb with rfl | rfl | rfl | rfl | rfl <;> exact .leaf rfl
  have hS : fedS w l [y] = feedS w l y := by simp [fedS]
  have hok2 := feedS_ok w hok y0 y1
  obtain ⟨m', rv, ev, hv, r, ix, ne, nh, ps, c, e, O, fr⟩ := d_fed (m := [wB w, blk (lnT l []), zR8, ownB eI6 [0, 0], ownB eU8 [y]]) w l (slO 4 1) [y] hc hok (bOk_one y0 y1) (by simp) rfl (fun m' h => by
    intro i hi
    simp at hi
    subst hi
    have h4 := h 4 (by simp)
    refine ⟨.pointer (some ⟨4, 0, none⟩), rfl, ?_⟩
    rw [ld1_ptr, h4]
    rfl) (sl_low (by simp) _ _ _)
  rw [hS] at e O
  have h2c : m'[2]? = some zR8 := by rw [fr 2 (by simp)]; rfl
  have O2 := O.set 2 (blk (lrC 0 false nilW hv rv ev (feedS w l y).1.t (feedS w l y).1.n)) (by simp)
  obtain ⟨hE, eE, q1, q2, q3, q4⟩ := O2.ret (by have := hok2.1; omega) (flA w l y)
  refine ⟨hE, eE, ps, c, q1, q2, q3, ?_⟩
  rw [← q4]
  have hev := O.es.val
  have hhv := O.hs.val
  have hrv : rv.cells = #[rv] ∧ flat rv = true := by rw [O.rs.val]; exact ⟨rfl, rfl⟩
  have hset : ∀ x : Blk, (m'.set 2 x)[2]? = some x := fun x => List.getElem?_set_self (List.getElem?_eq_some_iff.1 h2c).1
  have e' : dcall X_impl_fed [wayV w, lnV l, slO 4 1] [wB w, blk (lnT l []), zR8, ⟨[.int .i64 0, .int .i64 0], 1, true, true⟩, ⟨[.int .u8 y], 1, true, true⟩] = some (lrV 0 false nilW hv rv ev (feedS w l y).1.t (feedS w l y).1.n, m') := e
  clear q4 O O2 fr e
  generalize feedS w l y = S at *
  simp (maxSteps := 400000) -implicitDefEqProofs [X_impl_FeedLine, c1, c2, c3, h1, h2, e', h2c, hset, hev.1, hev.2, hhv.1, hhv.2, hrv.1, hrv.2]
end Go.Ab
namespace Go.Ab
set_option maxHeartbeats 8000000
@[simp] def Fm.R2 (R : Option (List (List Int))) : Fm → Option (List (List Int))
  | .u _ => R
  | .t _ => R
  | .n r _ => some r
@[simp] def Fm.E2 : Fm → EdT
  | .u E => E
  | .t c => some (c, [], c.length)
  | .n _ E => E
theorem Fm.ln2 (R : Option (List (List Int))) (t : Bool) (n : Int) (F : Fm) : F.ln R t n = ⟨oR (F.R2 R), oE F.E2, t, n⟩ := by cases F <;> rfl
abbrev rowR (l : List (List Int)) : Option (List (List Int)) := if l = [] then none else some l
theorem oR_rowR (l : List (List Int)) : oR (rowR l) = l := by
  unfold rowR
  split
  · rename_i h; rw [h]; rfl
  · rfl
end Go.Ab
namespace Go.Ab
set_option maxHeartbeats 8000000
abbrev flS (w : WayT) (l : LnT) (y : Int) : List Value := [wayV w, lnV l, .int .u8 y]
theorem s_spec_FL_bad (w : WayT) (l : LnT) (y : Int) (hl : l.small) (hf : askF w l ≠ 0) : X_spec_FeedLine (flS w l y) [] = some (lrB (askF w l), []) := by
  have c1 := s_spec_l11Asked w l hl [] []
  have e : (if wayF w = 0 then lineF l else wayF w) = askF w l := rfl
  rw [e] at c1
  simp (maxSteps := 400000) -implicitDefEqProofs [X_spec_FeedLine, retK_eq, c1, hf]
theorem s_spec_FL (w : WayT) (l : LnT) (y : Int) (hl : l.small) (hf : askF w l = 0) (hn0 : -1000 ≤ l.n) (hn1 : l.n ≤ 1000) (y0 : 0 ≤ y) (y1 : y < 256) : ∃ R2 E2, oR R2 = (feedS w l y).1.rows ∧ oE E2 = (feedS w l y).1.cur ∧ X_spec_FeedLine (flS w l y) [] = some (lrV 0 false nilW (slO 0 (feedS w l y).2.length) (rV 1 R2) (eV (1 + (rB R2).length) E2) (feedS w l y).1.t (feedS w l y).1.n, ownB eU8 (feedS w l y).2 :: (rB R2 ++ eB' E2)) := by
  have c1 := s_spec_l11Asked w l hl [] []
  have e : (if wayF w = 0 then lineF l else wayF w) = askF w l := rfl
  rw [e] at c1
  obtain ⟨h40, hsz⟩ := line_small40 hf
  have c2 := s_spec_l11Copy l (by omega) hl.2.1 hl.2.2
  have hc40 : l.cur.length ≤ 40 := by unfold LnT.size at hsz; omega
  have hR := oR_rowR l.rows
  have hX := x_Feed w .n nilW nilW rfl rfl (rowR l.rows) (some (l.cur, [], l.cur.length)) l.t l.n y (by rw [hR]; exact h40) ⟨Nat.le_refl _, by omega⟩ (fun t n => by
    show LnT.small ⟨oR (rowR l.rows), l.cur, t, n⟩
    rw [hR]
    exact hl) hn0 hn1 y0 y1
  have hln : lnO (rowR l.rows) (some (l.cur, [], l.cur.length)) l.t l.n = l := by
    show LnT.mk (oR (rowR l.rows)) l.cur l.t l.n = l
    rw [hR]
  rw [hln] at hX
  obtain ⟨F, t', n', g1, g2, g3, g4⟩ := hX
  rw [Fm.ln2] at g4
  generalize feedS w l y = S at *
  obtain ⟨⟨Sr, Sc, St, Sn⟩, O⟩ := S
  simp only [LnT.mk.injEq] at g4
  obtain ⟨q1, q2, q3, q4⟩ := g4
  subst q3 q4
  refine ⟨F.R2 (rowR l.rows), F.E2, q1, q2, ?_⟩
  clear q1 q2 hln hR
  obtain ⟨rows, cur, t, m⟩ := l
  simp only at *
  by_cases hr : rows = []
  · subst hr
    simp only [rowR, if_true] at *
    cases F with
    | u E' =>
      rcases E' with _ | ⟨c', j', m'⟩
      · simp -implicitDefEqProofs [fK, Fm.mem] at g3
        simp (maxSteps := 400000) -implicitDefEqProofs [X_spec_FeedLine, retK_eq, c1, hf, c2, g3]
      · obtain ⟨c, j, m, h0, h⟩ := g1
        cases h0
        simp -implicitDefEqProofs [fK, Fm.mem] at g3
        simp (maxSteps := 400000) -implicitDefEqProofs [X_spec_FeedLine, retK_eq, c1, hf, c2, g3]
        exact congrArg (ownB eU8) (by simpa using h.symm)
    | t c =>
      simp -implicitDefEqProofs [fK, Fm.mem] at g3
      simp (maxSteps := 400000) -implicitDefEqProofs [X_spec_FeedLine, retK_eq, c1, hf, c2, g3]
    | n r E' =>
      rcases E' with _ | ⟨c', j', m'⟩
      · simp -implicitDefEqProofs [fK, Fm.mem] at g3
        simp (maxSteps := 400000) -implicitDefEqProofs [X_spec_FeedLine, retK_eq, c1, hf, c2, g3]
      · obtain ⟨c, j, m, h0, h⟩ := g1
        cases h0
        simp -implicitDefEqProofs [fK, Fm.mem] at g3
        simp (maxSteps := 400000) -implicitDefEqProofs [X_spec_FeedLine, retK_eq, c1, hf, c2, g3]
        exact congrArg (ownB eU8) (by simpa using h.symm)
  · simp only [rowR, hr, if_false] at *
    cases F with
    | u E' =>
      rcases E' with _ | ⟨c', j', m'⟩
      · simp -implicitDefEqProofs [fK, Fm.mem] at g3
        simp (maxSteps := 400000) -implicitDefEqProofs [X_spec_FeedLine, retK_eq, c1, hf, c2, g3]
      · obtain ⟨c, j, m, h0, h⟩ := g1
        cases h0
        simp -implicitDefEqProofs [fK, Fm.mem] at g3
        simp (maxSteps := 400000) -implicitDefEqProofs [X_spec_FeedLine, retK_eq, c1, hf, c2, g3]
        exact congrArg (ownB eU8) (by simpa using h.symm)
    | t c =>
      simp -implicitDefEqProofs [fK, Fm.mem] at g3
      simp (maxSteps := 400000) -implicitDefEqProofs [X_spec_FeedLine, retK_eq, c1, hf, c2, g3]
    | n r E' =>
      rcases E' with _ | ⟨c', j', m'⟩
      · simp -implicitDefEqProofs [fK, Fm.mem] at g3
        simp (maxSteps := 400000) -implicitDefEqProofs [X_spec_FeedLine, retK_eq, c1, hf, c2, g3]
      · obtain ⟨c, j, m, h0, h⟩ := g1
        cases h0
        simp -implicitDefEqProofs [fK, Fm.mem] at g3
        simp (maxSteps := 400000) -implicitDefEqProofs [X_spec_FeedLine, retK_eq, c1, hf, c2, g3]
        exact congrArg (ownB eU8) (by simpa using h.symm)
theorem fz_spR (O : List Int) (R : Option (List (List Int))) (E : EdT) (t : Bool) (n : Int) : fz 64 (ownB eU8 O :: (rB R ++ eB' E)) (lrV 0 false nilW (slO 0 O.length) (rV 1 R) (eV (1 + (rB R).length) E) t n) = some (lrF 0 false [] O ⟨oR R, oE E, t, n⟩) := by
  have f1 : fz 63 (ownB eU8 O :: (rB R ++ eB' E)) (slO 0 O.length) = some (frS eU8 O) := by simp
  have f2 : fz 63 (ownB eU8 O :: (rB R ++ eB' E)) (rV 1 R) = some (frS eBS (oR R)) := fz_rE 60 _ 1 R fun r h => by subst h; rfl
  have f3 : fz 63 (ownB eU8 O :: (rB R ++ eB' E)) (eV (1 + (rB R).length) E) = some (frS eU8 (oE E)) := fz_eE 60 _ _ E fun cc q nn h => by
    subst h
    rw [Nat.add_comm, List.getElem?_cons_succ, List.getElem?_append_right (Nat.le_refl _), Nat.sub_self]
    rfl
  rw [fz_agg]
  simp only [mapO, f1, f2, f3]
  rfl
end Go.Ab
namespace Go.Ab
set_option maxHeartbeats 8000000
abbrev fmA (w : WayT) (l : LnT) (d : List Int) : List Value := [wayV w, lnV l, frS eU8 d]
theorem s_impl_FM_bad (w : WayT) (l : LnT) (d : List Int) (hl : l.small) (hf : askF w l ≠ 0) : X_impl_FeedMany (fmA w l d) [] = some (lrB (askF w l), []) := by
  have c1 := s_impl_WayFault w
  have c2 := s_impl_LineFault l hl
  have c3 := s_impl_first3
  have e : (if wayF w = 0 then lineF l else wayF w) = askF w l := rfl
  by_cases h2 : (d.length : Int) ≤ 200
  · by_cases h1 : wayF w = 0
    · rw [if_pos h1] at e
      rw [← e] at hf ⊢
      simp (maxSteps := 400000) -implicitDefEqProofs [X_impl_FeedMany, retK_eq, c1, c2, c3, s_impl_unless, unl, h1, h2, hf]
    · rw [if_neg h1] at e
      rw [← e] at hf ⊢
      simp (maxSteps := 400000) -implicitDefEqProofs [X_impl_FeedMany, retK_eq, c1, c2, c3, s_impl_unless, unl, h1, h2, hf]
  · by_cases h1 : wayF w = 0
    · rw [if_pos h1] at e
      rw [← e] at hf ⊢
      simp (maxSteps := 400000) -implicitDefEqProofs [X_impl_FeedMany, retK_eq, c1, c2, c3, s_impl_unless, unl, h1, h2, hf]
    · rw [if_neg h1] at e
      rw [← e] at hf ⊢
      simp (maxSteps := 400000) -implicitDefEqProofs [X_impl_FeedMany, retK_eq, c1, c2, c3, s_impl_unless, unl, h1, h2, hf]
theorem ask_two {w : WayT} {l : LnT} (hf : askF w l = 0) : wayF w = 0 ∧ lineF l = 0 := by
  have h1 : wayF w = 0 := by
    by_cases h : wayF w = 0
    · exact h
    · unfold askF at hf; rw [if_neg h] at hf; exact absurd hf h
  exact ⟨h1, by unfold askF at hf; rwa [if_pos h1] at hf⟩
theorem s_impl_FM_2 (w : WayT) (l : LnT) (d : List Int) (hl : l.small) (hf : askF w l = 0) (hd : 200 < d.length) : X_impl_FeedMany (fmA w l d) [] = some (lrB 2, []) := by
  have c1 := s_impl_WayFault w
  have c2 := s_impl_LineFault l hl
  have c3 := s_impl_first3
  obtain ⟨h1, h2⟩ := ask_two hf
  have h3 : ¬ (d.length : Int) ≤ 200 := by omega
  simp (maxSteps := 400000) -implicitDefEqProofs [X_impl_FeedMany, retK_eq, c1, c2, c3, s_impl_unless, unl, h1, h2, h3]
theorem dat_fr (m : Mem) (d : List Int) : Dat m (frS eU8 d) d := fun i hi => by
  have hx := ixa_frS eU8 (sz := 1) rfl .i64 (l := d) (j := (i : Int)) (by omega) (by omega)
  rw [Int.toNat_natCast] at hx
  exact ⟨_, hx, rfl⟩
theorem s_impl_FM (w : WayT) (l : LnT) (d : List Int) (hf : askF w l = 0) (hb : (∀ x ∈ l.rows, bOk x) ∧ bOk l.cur) (hd : d.length ≤ 200) (hdb : bOk d) : ∃ hE eE ps c, oE hE = (fedS w l d).2 ∧ oE eE = (fedS w l d).1.cur ∧ ps.map oE = (fedS w l d).1.rows ∧ X_impl_FeedMany (fmA w l d) [] = some (loV hE eE ps c (fedS w l d).1.t (fedS w l d).1.n, loM hE eE ps) := by
  have hok := lnOk_ask hf hb
  have hsm := lnOk_small hok
  have c1 := s_impl_WayFault w
  have c2 := s_impl_LineFault l hsm
  have c3 := s_impl_first3
  obtain ⟨h1, h2⟩ := ask_two hf
  have hc : Closed [wB w, blk (lnT l []), zR8, ownB eI6 [0, 0, 0]] := by
    refine (Closed.nil).appL (L := [wB w, blk (lnT l []), zR8, ownB eI6 [0, 0, 0]]) fun b hb _ => ?_
    simp only [List.mem_cons, List.not_mem_nil, or_false] at hb
    rcases hb with rfl | rfl | rfl | rfl <;> exact .leaf rfl
  have hok2 := fedS_ok w d hok hdb
  obtain ⟨m', rv, ev, hv, r, ix, ne, nh, ps, c, e, O, fr⟩ := d_fed (m := [wB w, blk (lnT l []), zR8, ownB eI6 [0, 0, 0]]) w l (frS eU8 d) d hc hok hdb hd rfl (fun m' h => dat_fr m' d) (.inert _ rfl)
  have h2c : m'[2]? = some zR8 := by rw [fr 2 (by simp)]; rfl
  have O2 := O.set 2 (blk (lrC 0 false nilW hv rv ev (fedS w l d).1.t (fedS w l d).1.n)) (by simp)
  obtain ⟨hE, eE, q1, q2, q3, q4⟩ := O2.ret (by have := hok2.1; omega) (fmA w l d)
  refine ⟨hE, eE, ps, c, q1, q2, q3, ?_⟩
  rw [← q4]
  have hev := O.es.val
  have hhv := O.hs.val
  have hrv : rv.cells = #[rv] ∧ flat rv = true := by rw [O.rs.val]; exact ⟨rfl, rfl⟩
  have hset : ∀ x : Blk, (m'.set 2 x)[2]? = some x := fun x => List.getElem?_set_self (List.getElem?_eq_some_iff.1 h2c).1
  have e' : dcall X_impl_fed [wayV w, lnV l, frS eU8 d] [wB w, blk (lnT l []), zR8, ⟨[.int .i64 0, .int .i64 0, .int .i64 0], 1, true, true⟩] = some (lrV 0 false nilW hv rv ev (fedS w l d).1.t (fedS w l d).1.n, m') := e
  have h3 : (d.length : Int) ≤ 200 := by omega
  clear q4 O O2 fr e
  generalize fedS w l d = S at *
  simp (maxSteps := 400000) -implicitDefEqProofs [X_impl_FeedMany, c1, c2, c3, s_impl_unless, unl, h1, h2, h3, e', h2c, hset, hev.1, hev.2, hhv.1, hhv.2, hrv.1, hrv.2]
end Go.Ab
namespace Go.Ab
set_option maxHeartbeats 8000000
abbrev zRb : Blk := blk [.int .i64 0, .bool false, nilW, nilW, nilW, nilW, .bool false, .int .i64 0]
@[simp] abbrev hV (k : Nat) (z : Zt) : Value := match z with
  | .o l j c => slQ k 0 l.length c
  | _ => nilW
@[simp] abbrev lB8 (z : Zt) (rv ev : Value) (t : Bool) (n : Int) : Blk := blk [.int .i64 0, .bool false, nilW, hV 3 z, rv, ev, .bool t, .int .i64 n]
@[simp] abbrev fB (w : WayT) (z : Zt) (R : Option (List (List Int))) (E : EdT) (t : Bool) (n : Int) : Mem := wB w :: zRb :: lB8 z (rV (3 + (hB z).length) R) (eV (3 + (hB z).length + (rB R).length) E) t n :: (hB z ++ (rB R ++ eB' E))
def eZ (ec : List Int) : Zt := if ec = [] then .n else .o ec [] ec.length
theorem eZ_nil : eZ [] = .n := if_pos rfl
theorem eZ_some {ec : List Int} (h : ec ≠ []) : eZ ec = .o ec [] ec.length := if_neg h
theorem ap_nil0 (m : Mem) (k c : Nat) : apL m 1 1 nilW (slQ k 0 0 c) = some (nilW, m) := by
  rfl
theorem rd_allS (x : List Int) : rdM (some (ownB eU8 x)) 0 x.length = some (cellsE eU8 x) := by
  have := rd_all x
  rwa [Nat.mul_one] at this
theorem ap_nil1 (m : Mem) (k : Nat) (O : List Int) (hk : m[k]? = some (ownB eU8 O)) (h : O ≠ []) (hl : O.length < 1000000000) : apL m 1 1 nilW (slO k O.length) = some (slO m.length O.length, m ++ [ownB eU8 O]) := by
  have hp := List.length_pos_iff.2 h
  show (ob (rd m k 0 (O.length * 1)) fun cs => appendIn m 1 1 (.slice none 0 0) cs O.length) = _
  rw [rd_rdM, hk, rd_all, ob_some]
  show (if O.length = 0 then _ else if O.length * 1 ≤ 140737488355328 ∧ O.length ≤ 140737488355328 then _ else none) = _
  rw [if_neg (by omega), if_pos ⟨by omega, by omega⟩]
  rfl
theorem l_FM_step (w : WayT) (ec : List Int) (R : Option (List (List Int))) (E : EdT) (t : Bool) (n : Int) (p : List Int) (y : Int) (r : List Int) (q : Nat) (hok : lnOk (lnO R E t n)) (hE : wfE E) (y0 : 0 ≤ y) (y1 : y < 256) (hd : (p ++ y :: r).length < 1000000) (he : ec.length + 1000 < 1000000000) : ∃ R2 E2, oR R2 = (feedS w (lnO R E t n) y).1.rows ∧ oE E2 = (feedS w (lnO R E t n) y).1.cur ∧ wfE E2 ∧ L_spec_FeedMany 0 (q + 1) 0 [frS eU8 (p ++ y :: r), ptr 0, ptr 1, ptr 2, .int .i64 p.length] (fB w (eZ ec) R E t n) = L_spec_FeedMany 0 q 0 [frS eU8 (p ++ y :: r), ptr 0, ptr 1, ptr 2, .int .i64 (p.length + 1)] (fB w (eZ (ec ++ (feedS w (lnO R E t n) y).2)) R2 E2 (feedS w (lnO R E t n) y).1.t (feedS w (lnO R E t n) y).1.n) := by
  have hO := feedS_len w y hok
  have hsm := lnOk_small hok
  have hX := x_Feed w (eZ ec) nilW nilW rfl rfl R E t n y hok.1 hE (fun t' n' => hsm) (by have := hok.2.2.1; simp only at this; omega) (by have := hok.2.2.2.1; simp only at this; omega) y0 y1
  obtain ⟨F, t', n', g1, g2, g3, g4⟩ := hX
  rw [Fm.ln2] at g4
  generalize feedS w (lnO R E t n) y = S at *
  obtain ⟨⟨Sr, Sc, St, Sn⟩, O⟩ := S
  simp only [LnT.mk.injEq] at g4
  obtain ⟨q1, q2, q3, q4⟩ := g4
  subst q3 q4
  have wf2 : wfE F.E2 := by
    cases F with
    | u E' => exact g2
    | t c => exact ⟨Nat.le_refl _, g2⟩
    | n r E' => exact g2
  refine ⟨F.R2 R, F.E2, q1, q2, wf2, ?_⟩
  clear q1 q2 wf2
  simp only at hO g3 ⊢
  have hx := ixa_mid eU8 (sz := 1) rfl .i64 p y r
  have hw := wrap_next (n := p.length) (by simp at hd; omega)
  have e5 : (p.length : Int) < ((p ++ y :: r).length : Int) := by simp
  have p1 := fun m n o c k o2 c2 => apL_sl (m := m) (sz := 1) (bytes := 1) (n := n) (o := o) (len := ec.length) (c := c) (n2 := k) (o2 := o2) (len2 := O.length) (c2 := c2) (by omega) (by omega)
  have p2 := fun m n cs k => apB_own (E := eU8) (m := m) (l := ec) (n := n) (sz := 1) (cs := cs) (k := k) rfl
  have p3 := u8_cat ec O
  have p4 := rd_allS O
  generalize p ++ y :: r = D at *
  by_cases h0 : ec = []
  · subst h0
    rw [eZ_nil] at *
    rw [List.nil_append]
    by_cases h1 : O = []
    · subst h1
      rw [eZ_nil]
      have a0 := ap_nil0
      cases F with
      | u E' =>
        rcases E' with _ | ⟨c', j', m'⟩
        · rcases R with _ | rr <;> rcases E with _ | ⟨c, j, m⟩ <;> simp -implicitDefEqProofs [fK, Fm.mem] at g3 <;> simp (maxSteps := 400000) -implicitDefEqProofs [L_spec_FeedMany, cutK_eq, hx, hw, e5, g3, a0]
        · obtain ⟨c, j, m, rfl, h⟩ := g1
          rcases R with _ | rr <;> simp -implicitDefEqProofs [fK, Fm.mem] at g3 <;> simp (maxSteps := 400000) -implicitDefEqProofs [L_spec_FeedMany, cutK_eq, hx, hw, e5, g3, a0, h]
      | t c => rcases R with _ | rr <;> rcases E with _ | ⟨cu, j, m⟩ <;> simp -implicitDefEqProofs [fK, Fm.mem] at g3 <;> simp (maxSteps := 400000) -implicitDefEqProofs [L_spec_FeedMany, cutK_eq, hx, hw, e5, g3, a0]
      | n rr' E' =>
        rcases E' with _ | ⟨c', j', m'⟩
        · rcases R with _ | rr <;> rcases E with _ | ⟨c, j, m⟩ <;> simp -implicitDefEqProofs [fK, Fm.mem] at g3 <;> simp (maxSteps := 400000) -implicitDefEqProofs [L_spec_FeedMany, cutK_eq, hx, hw, e5, g3, a0]
        · obtain ⟨c, j, m, rfl, h⟩ := g1
          rcases R with _ | rr <;> simp -implicitDefEqProofs [fK, Fm.mem] at g3 <;> simp (maxSteps := 400000) -implicitDefEqProofs [L_spec_FeedMany, cutK_eq, hx, hw, e5, g3, a0, h]
    · rw [eZ_some h1]
      have a1 := fun m k hk => ap_nil1 m k O hk h1 (by omega)
      cases F with
      | u E' =>
        rcases E' with _ | ⟨c', j', m'⟩
        · rcases R with _ | rr <;> rcases E with _ | ⟨c, j, m⟩ <;> simp -implicitDefEqProofs [fK, Fm.mem] at g3 <;> simp (maxSteps := 400000) -implicitDefEqProofs [L_spec_FeedMany, cutK_eq, hx, hw, e5, g3, a1]
        · obtain ⟨c, j, m, rfl, h⟩ := g1
          rcases R with _ | rr <;> simp -implicitDefEqProofs [fK, Fm.mem] at g3 <;> simp (maxSteps := 400000) -implicitDefEqProofs [L_spec_FeedMany, cutK_eq, hx, hw, e5, g3, a1, h]
      | t c => rcases R with _ | rr <;> rcases E with _ | ⟨cu, j, m⟩ <;> simp -implicitDefEqProofs [fK, Fm.mem] at g3 <;> simp (maxSteps := 400000) -implicitDefEqProofs [L_spec_FeedMany, cutK_eq, hx, hw, e5, g3, a1]
      | n rr' E' =>
        rcases E' with _ | ⟨c', j', m'⟩
        · rcases R with _ | rr <;> rcases E with _ | ⟨c, j, m⟩ <;> simp -implicitDefEqProofs [fK, Fm.mem] at g3 <;> simp (maxSteps := 400000) -implicitDefEqProofs [L_spec_FeedMany, cutK_eq, hx, hw, e5, g3, a1]
        · obtain ⟨c, j, m, rfl, h⟩ := g1
          rcases R with _ | rr <;> simp -implicitDefEqProofs [fK, Fm.mem] at g3 <;> simp (maxSteps := 400000) -implicitDefEqProofs [L_spec_FeedMany, cutK_eq, hx, hw, e5, g3, a1, h]
  · rw [eZ_some h0] at *
    rw [eZ_some (by simp [h0])]
    cases F with
    | u E' =>
      rcases E' with _ | ⟨c', j', m'⟩
      · rcases R with _ | rr <;> rcases E with _ | ⟨c, j, m⟩ <;> simp -implicitDefEqProofs [fK, Fm.mem] at g3 <;> simp (maxSteps := 400000) -implicitDefEqProofs [L_spec_FeedMany, cutK_eq, hx, hw, e5, g3, p1, p2, p3, p4]
      · obtain ⟨c, j, m, rfl, h⟩ := g1
        rcases R with _ | rr <;> simp -implicitDefEqProofs [fK, Fm.mem] at g3 <;> simp (maxSteps := 400000) -implicitDefEqProofs [L_spec_FeedMany, cutK_eq, hx, hw, e5, g3, p1, p2, p3, p4, h]
    | t c => rcases R with _ | rr <;> rcases E with _ | ⟨cu, j, m⟩ <;> simp -implicitDefEqProofs [fK, Fm.mem] at g3 <;> simp (maxSteps := 400000) -implicitDefEqProofs [L_spec_FeedMany, cutK_eq, hx, hw, e5, g3, p1, p2, p3, p4]
    | n rr' E' =>
      rcases E' with _ | ⟨c', j', m'⟩
      · rcases R with _ | rr <;> rcases E with _ | ⟨c, j, m⟩ <;> simp -implicitDefEqProofs [fK, Fm.mem] at g3 <;> simp (maxSteps := 400000) -implicitDefEqProofs [L_spec_FeedMany, cutK_eq, hx, hw, e5, g3, p1, p2, p3, p4]
      · obtain ⟨c, j, m, rfl, h⟩ := g1
        rcases R with _ | rr <;> simp -implicitDefEqProofs [fK, Fm.mem] at g3 <;> simp (maxSteps := 400000) -implicitDefEqProofs [L_spec_FeedMany, cutK_eq, hx, hw, e5, g3, p1, p2, p3, p4, h]
end Go.Ab
namespace Go.Ab
set_option maxHeartbeats 8000000
abbrev fmS (w : WayT) (l : LnT) (d : List Int) : List Value := [wayV w, lnV l, frS eU8 d]
theorem s_spec_FM_bad (w : WayT) (l : LnT) (d : List Int) (hl : l.small) (hf : askF w l ≠ 0) : X_spec_FeedMany (fmS w l d) [] = some (lrB (askF w l), []) := by
  have c1 := s_spec_l11Asked w l hl [] []
  have e : (if wayF w = 0 then lineF l else wayF w) = askF w l := rfl
  rw [e] at c1
  simp (maxSteps := 400000) -implicitDefEqProofs [X_spec_FeedMany, retK_eq, c1, hf]
theorem s_spec_FM_2 (w : WayT) (l : LnT) (d : List Int) (hl : l.small) (hf : askF w l = 0) (hd : 200 < d.length) : X_spec_FeedMany (fmS w l d) [] = some (lrB 2, []) := by
  have c1 := s_spec_l11Asked w l hl [] []
  have e : (if wayF w = 0 then lineF l else wayF w) = askF w l := rfl
  rw [e] at c1
  have h3 : (200 : Int) < (d.length : Int) := by omega
  simp (maxSteps := 400000) -implicitDefEqProofs [X_spec_FeedMany, retK_eq, c1, hf, h3]
abbrev spV (z : Zt) (R : Option (List (List Int))) (E : EdT) (t : Bool) (n : Int) : Value := lrV 0 false nilW (hV 0 z) (rV (hB z).length R) (eV ((hB z).length + (rB R).length) E) t n
abbrev spM (z : Zt) (R : Option (List (List Int))) (E : EdT) : Mem := hB z ++ (rB R ++ eB' E)
theorem l_FM (w : WayT) (r : List Int) : ∀ (p : List Int) (q : Nat) (ec : List Int) (R : Option (List (List Int))) (E : EdT) (t : Bool) (n : Int), r.length < q → (p ++ r).length < 1000000 → bOk r → lnOk (lnO R E t n) → wfE E → ec.length + 600 * r.length + 1000 < 1000000000 → ∃ R2 E2, oR R2 = (fedS w (lnO R E t n) r).1.rows ∧ oE E2 = (fedS w (lnO R E t n) r).1.cur ∧ L_spec_FeedMany 0 q 0 [frS eU8 (p ++ r), ptr 0, ptr 1, ptr 2, .int .i64 p.length] (fB w (eZ ec) R E t n) = some (spV (eZ (ec ++ (fedS w (lnO R E t n) r).2)) R2 E2 (fedS w (lnO R E t n) r).1.t (fedS w (lnO R E t n) r).1.n, spM (eZ (ec ++ (fedS w (lnO R E t n) r).2)) R2 E2) := by
  induction r with
  | nil =>
    intro p q ec R E t n hq hl hb hok hE he
    obtain ⟨q, rfl⟩ : ∃ n, q = n + 1 := ⟨q - 1, by omega⟩
    refine ⟨R, E, rfl, rfl, ?_⟩
    simp only [fedS, List.append_nil]
    by_cases h0 : ec = []
    · rw [h0, eZ_nil]
      rcases R with _ | rr <;> rcases E with _ | ⟨c, j, m⟩ <;> simp (maxSteps := 400000) -implicitDefEqProofs [L_spec_FeedMany, retK_eq]
    · rw [eZ_some h0]
      rcases R with _ | rr <;> rcases E with _ | ⟨c, j, m⟩ <;> simp (maxSteps := 400000) -implicitDefEqProofs [L_spec_FeedMany, retK_eq]
  | cons y r ih =>
    intro p q ec R E t n hq hl hb hok hE he
    obtain ⟨q, rfl⟩ : ∃ n, q = n + 1 := ⟨q - 1, by omega⟩
    have hy := hb y (by simp)
    simp only [List.length_cons] at he hq
    obtain ⟨R2, E2, q1, q2, hE2, hs⟩ := l_FM_step w ec R E t n p y r q hok hE hy.1 hy.2 hl (by omega)
    have hok2 := feedS_ok w hok hy.1 hy.2
    have hO := feedS_len w y hok
    rw [fedS]
    generalize feedS w (lnO R E t n) y = S at *
    obtain ⟨⟨Sr, Sc, St, Sn⟩, O⟩ := S
    simp only at q1 q2 hs hok2 hO ⊢
    subst q1 q2
    obtain ⟨R3, E3, r1, r2, h⟩ := ih (p ++ [y]) q (ec ++ O) R2 E2 St Sn (by omega) (by simpa using hl) (fun x hx => hb x (by simp [hx])) hok2 hE2 (by simp; omega)
    have e1 : p ++ [y] ++ r = p ++ y :: r := by simp
    have e2 : ((p ++ [y]).length : Int) = p.length + 1 := by simp
    rw [e1, e2] at h
    rw [hs]
    rw [List.append_assoc] at h
    exact ⟨R3, E3, r1, r2, h⟩
theorem s_spec_FM (w : WayT) (l : LnT) (d : List Int) (hl : l.small) (hf : askF w l = 0) (hby : (∀ x ∈ l.rows, bOk x) ∧ bOk l.cur) (hok : lnOk l) (hd : d.length ≤ 200) (hdb : bOk d) : ∃ R2 E2, oR R2 = (fedS w l d).1.rows ∧ oE E2 = (fedS w l d).1.cur ∧ X_spec_FeedMany (fmS w l d) [] = some (spV (eZ (fedS w l d).2) R2 E2 (fedS w l d).1.t (fedS w l d).1.n, spM (eZ (fedS w l d).2) R2 E2) := by
  have c1 := s_spec_l11Asked w l hl [] []
  have e : (if wayF w = 0 then lineF l else wayF w) = askF w l := rfl
  rw [e] at c1
  obtain ⟨h40, hsz⟩ := line_small40 hf
  have c2 := s_spec_l11Copy l (by omega) hl.2.1 hl.2.2
  have hc40 : l.cur.length ≤ 40 := by unfold LnT.size at hsz; omega
  have hR := oR_rowR l.rows
  have hln : lnO (rowR l.rows) (some (l.cur, [], l.cur.length)) l.t l.n = l := by
    show LnT.mk (oR (rowR l.rows)) l.cur l.t l.n = l
    rw [hR]
  obtain ⟨R2, E2, q1, q2, h⟩ := l_FM w d [] QQ [] (rowR l.rows) (some (l.cur, [], l.cur.length)) l.t l.n (by unfold QQ; omega) (by simp; omega) hdb (by rw [hln]; exact hok) ⟨Nat.le_refl _, by omega⟩ (by simp; omega)
  rw [hln, eZ_nil, List.nil_append, List.nil_append] at h
  rw [hln] at q1 q2
  refine ⟨R2, E2, q1, q2, ?_⟩
  rw [← h]
  have h3 : ¬ (200 : Int) < (d.length : Int) := by omega
  clear h q1 q2 hln hR
  obtain ⟨rows, cur, t, m⟩ := l
  simp only at *
  by_cases hr : rows = []
  · subst hr
    simp only [rowR, if_true] at *
    simp (maxSteps := 400000) -implicitDefEqProofs [X_spec_FeedMany, cutK_eq, c1, hf, c2, h3]
  · simp only [rowR, hr, if_false] at *
    simp (maxSteps := 400000) -implicitDefEqProofs [X_spec_FeedMany, cutK_eq, c1, hf, c2, h3]
theorem fz_spM (ec : List Int) (R : Option (List (List Int))) (E : EdT) (t : Bool) (n : Int) : fz 64 (spM (eZ ec) R E) (spV (eZ ec) R E t n) = some (lrF 0 false [] ec ⟨oR R, oE E, t, n⟩) := by
  have f1 : fz 63 (spM (eZ ec) R E) (hV 0 (eZ ec)) = some (frS eU8 ec) := by
    by_cases h : ec = []
    · rw [h, eZ_nil]
      rfl
    · rw [eZ_some h]
      have : (spM (.o ec [] ec.length) R E)[0]? = some (ownB eU8 (ec ++ [])) := rfl
      show fz (60 + 3) _ (slQ 0 0 ec.length ec.length) = _
      rw [fz_slO, this]
      exact hE ec [] 61 _
  have f2 : fz 63 (spM (eZ ec) R E) (rV (hB (eZ ec)).length R) = some (frS eBS (oR R)) := fz_rE 60 _ _ R fun r h => by
    subst h
    rw [List.getElem?_append_right (Nat.le_refl _), Nat.sub_self]
    rfl
  have f3 : fz 63 (spM (eZ ec) R E) (eV ((hB (eZ ec)).length + (rB R).length) E) = some (frS eU8 (oE E)) := fz_eE 60 _ _ E fun cc q nn h => by
    subst h
    rw [List.getElem?_append_right (by omega), Nat.add_sub_cancel_left, List.getElem?_append_right (Nat.le_refl _), Nat.sub_self]
    rfl
  rw [fz_agg]
  simp only [mapO, f1, f2, f3]
  rfl
end Go.Ab
namespace Go.Ab
set_option maxHeartbeats 4000000
theorem wf_u8 {n : Int} (h : wfI .u8 n) : 0 ≤ n ∧ n < 256 := by
  have := wfI_u8 h
  omega
theorem typed_code {s e : Nat} {a : Value} (h : Typed CT s [a]) (hs : (CT.ty s).d = .slice e) (he : (CT.ty e).d = .int .u8) (hz : (CT.ty e).size = 1) : ∃ l : List Int, a = frS eU8 l ∧ l.length ≤ maxLen ∧ ∀ n ∈ l, 0 ≤ n ∧ n < 256 := by
  obtain ⟨l, h1, h2, h3⟩ := typed_ints h hs he hz
  exact ⟨l, by rw [h1, frS_ints], h2, fun n hn => wf_u8 (h3 n hn)⟩
end Go.Ab
