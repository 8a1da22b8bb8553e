/- What the functions of the program answer, for all arguments that the theorems name as conditions. -/
import Derived.Test.YtnmjgjedkdmefaaS12Me
import Derived.Test.YtnmjgjedkdmefaaS12Mk
set_option linter.unusedVariables false
set_option linter.unusedSimpArgs false
namespace Go.Ab
open Go.Proofs
set_option maxHeartbeats 8000000
set_option maxRecDepth 100000
theorem icall_of {X : List Value → Mem → Option VM} {args : List Value} {v0 w : Value} {M0 : Mem} (ha : args.all scal2 = true) (hX : X args [] = some (v0, M0)) (hz : fz 64 M0 v0 = some w) (m : Mem) : icall X args m = some (w, m) := by
  rw [icall_eq, if_pos ha, hX, bo_some]
  simp only [hz, bo_some]
theorem fmA_scal (w : WayT) (L : LnT) (d : List Int) : (fmA w L d).all scal2 = true := by simp
theorem flA_scal (w : WayT) (L : LnT) (y : Int) : (flA w L y).all scal2 = true := by simp
theorem lineF_ok {l : LnT} (h : lnOk l) : lineF l = 0 := by
  obtain ⟨g1, g2, g3, g4, _⟩ := h
  unfold lineF
  rw [if_pos ⟨g1, g2⟩, if_pos (by simp [inB]; omega)]
theorem ask_ok {w : WayT} {L l : LnT} (hf : askF w L = 0) (h : lnOk l) : askF w l = 0 := by
  unfold askF
  rw [if_pos (ask_two hf).1]
  exact lineF_ok h
theorem fedS_app (w : WayT) : ∀ (p r : List Int) (l : LnT), fedS w l (p ++ r) = ((fedS w (fedS w l p).1 r).1, (fedS w l p).2 ++ (fedS w (fedS w l p).1 r).2)
  | [], r, l => by simp [fedS]
  | y :: p, r, l => by
    rw [List.cons_append, fedS, fedS, fedS_app w p r]
    simp
theorem fedS_lenK (w : WayT) : ∀ (d : List Int) {l : LnT}, lnOk l → bOk d → (fedS w l d).2.length ≤ 600 * d.length
  | [], l, h, _ => by simp [fedS]
  | y :: r, l, h, hd => by
    have h1 := feedS_len w y h
    have h2 := fedS_lenK w r (feedS_ok w h (hd y (by simp)).1 (hd y (by simp)).2) (fun x hx => hd x (by simp [hx]))
    rw [fedS]
    simp only [List.length_append, List.length_cons]
    omega
theorem z_FM (w : WayT) (L : LnT) (d : List Int) (hs : L.small) (hk : askF w L = 0) (hb : (∀ x ∈ L.rows, bOk x) ∧ bOk L.cur) (hd : d.length ≤ 200) (hdb : bOk d) : (∀ m, icall X_impl_FeedMany (fmA w L d) m = some (lrF 0 false [] (fedS w L d).2 (fedS w L d).1, m)) ∧ (∀ m, icall X_spec_FeedMany (fmA w L d) m = some (lrF 0 false [] (fedS w L d).2 (fedS w L d).1, m)) := by
  have hok := lnOk_ask hk hb
  obtain ⟨R2, E2, q1, q2, S⟩ := s_spec_FM w L d hs hk hb hok hd hdb
  obtain ⟨hE, eE, ps, c, p1, p2, p3, I⟩ := s_impl_FM w L d hk hb hd hdb
  generalize fedS w L d = SS at *
  obtain ⟨⟨Sr, Sc, St, Sn⟩, O⟩ := SS
  simp only at q1 q2 p1 p2 p3 S I
  subst p1 p2 p3
  have fS := fz_spM (oE hE) R2 E2 St Sn
  rw [q1, q2] at fS
  exact ⟨icall_of (fmA_scal w L d) I (fz_lo hE eE ps c St Sn), icall_of (fmA_scal w L d) S fS⟩
theorem z_FMbad (w : WayT) (L : LnT) (d : List Int) (hs : L.small) (h : askF w L ≠ 0 ∨ 200 < d.length) : ∃ c, ¬ c = 0 ∧ (∀ m, icall X_impl_FeedMany (fmA w L d) m = some (lrF c false [] [] ⟨[], [], false, 0⟩, m)) ∧ (∀ m, icall X_spec_FeedMany (fmA w L d) m = some (lrF c false [] [] ⟨[], [], false, 0⟩, m)) := by
  by_cases hk : askF w L = 0
  · have hd : 200 < d.length := h.resolve_left (fun g => g hk)
    exact ⟨2, by omega, icall_of (fmA_scal w L d) (s_impl_FM_2 w L d hs hk hd) (fz_rb 2), icall_of (fmA_scal w L d) (s_spec_FM_2 w L d hs hk hd) (fz_rb 2)⟩
  · exact ⟨askF w L, hk, icall_of (fmA_scal w L d) (s_impl_FM_bad w L d hs hk) (fz_rb _), icall_of (fmA_scal w L d) (s_spec_FM_bad w L d hs hk) (fz_rb _)⟩
theorem z_FL (w : WayT) (L : LnT) (y : Int) (hs : L.small) (hb : (∀ x ∈ L.rows, bOk x) ∧ bOk L.cur) (y0 : 0 ≤ y) (y1 : y < 256) : ∃ (c : Int) (O : List Int) (L' : LnT), (∀ m, icall X_impl_FeedLine (flA w L y) m = some (lrF c false [] O L', m)) ∧ (∀ m, icall X_spec_FeedLine (flA w L y) m = some (lrF c false [] O L', m)) := by
  by_cases hk : askF w L = 0
  · have hok := lnOk_ask hk hb
    obtain ⟨R2, E2, q1, q2, S⟩ := s_spec_FL w L y hs hk (by have := hok.2.2.1; omega) (by have := hok.2.2.2.1; omega) y0 y1
    obtain ⟨hE, eE, ps, c, p1, p2, p3, I⟩ := s_impl_FL w L y hk hb y0 y1
    refine ⟨0, (feedS w L y).2, (feedS w L y).1, ?_⟩
    generalize feedS w L y = SS at *
    obtain ⟨⟨Sr, Sc, St, Sn⟩, O⟩ := SS
    simp only at q1 q2 p1 p2 p3 S I
    subst p1 p2 p3
    have fS := fz_spR (oE hE) R2 E2 St Sn
    rw [q1, q2] at fS
    exact ⟨icall_of (flA_scal w L y) I (fz_lo hE eE ps c St Sn), icall_of (flA_scal w L y) S fS⟩
  · exact ⟨askF w L, [], ⟨[], [], false, 0⟩, icall_of (flA_scal w L y) (s_impl_FL_bad w L y hs hk) (fz_rb _), icall_of (flA_scal w L y) (s_spec_FL_bad w L y hs hk) (fz_rb _)⟩
theorem lnD_small {L : LnT} (h : lnD L) : L.small := by
  obtain ⟨d1, d2, d3, d4, d5⟩ := h
  exact ⟨by omega, fun x hx => by have := d2 x hx; omega, by omega⟩
theorem s_FnFeeds (l : List Int) (hb : ∀ x ∈ l, 0 ≤ x ∧ x < 256) : X_laws_FnFeeds [frS eU8 l] [] = some (.bool true, []) := by
  have b0 := s_lwBig l
  by_cases hbig : 1048576 < l.length
  · simp (maxSteps := 1000000) -implicitDefEqProofs [X_laws_FnFeeds, retK_eq, b0, hbig]
  have hl := bytes_small hbig hb
  obtain ⟨w, L, d, hD, hdb, hdl, eD⟩ := z_DrawFeedMany l hl
  have hs := lnD_small hD
  by_cases hbad : askF w L ≠ 0 ∨ 200 < d.length
  · obtain ⟨c, hc, eI, eS⟩ := z_FMbad w L d hs hbad
    obtain ⟨rows, cur, t, nn⟩ := L
    simp (maxSteps := 2000000) -implicitDefEqProofs [-icall_eq, X_laws_FnFeeds, retK_eq, b0, hbig, eD, eI, eS, hc]
  have hk : askF w L = 0 := Classical.byContradiction fun h => hbad (.inl h)
  have hd2 : d.length ≤ 200 := by
    rcases Nat.lt_or_ge 200 d.length with h | h
    · exact absurd (.inr h) hbad
    · exact h
  have hbL : (∀ x ∈ L.rows, bOk x) ∧ bOk L.cur := hD.2.2.2
  have hok := lnOk_ask hk hbL
  obtain ⟨eI, eS⟩ := z_FM w L d hs hk hbL hd2 hdb
  have w1 : IntKind.i64.wrap ((d.length : Int) + 1) = d.length + 1 := wrap_i64 (by omega) (by omega)
  obtain ⟨cut, hc0, hc1, e3⟩ := s_lwAt l hl (d.length + 1) (by omega) (by omega)
  obtain ⟨c, rfl⟩ := Int.eq_ofNat_of_zero_le hc0
  have hc : c ≤ d.length := by omega
  have t1 := fun m => sl_frS eU8 m (sz := 1) rfl (l := d) (lo := none) (hi := some (.int .i64 c)) (a := 0) (b := c) rfl (bnd_nat _ _ _) (by omega) hc
  have t2 := fun m => sl_frS eU8 m (sz := 1) rfl (l := d) (lo := some (.int .i64 c)) (hi := none) (a := c) (b := d.length) (bnd_nat _ _ _) rfl hc (by omega)
  have q1 : (d.drop 0).take (c - 0) = d.take c := by simp
  have q2 : (d.drop c).take (d.length - c) = d.drop c := List.take_of_length_le (by simp)
  simp only [q1] at t1
  simp only [q2] at t2
  have hb1 : bOk (d.take c) := fun x hx => hdb x (List.mem_of_mem_take hx)
  have hb2 : bOk (d.drop c) := fun x hx => hdb x (List.mem_of_mem_drop hx)
  obtain ⟨eA, _⟩ := z_FM w L (d.take c) hs hk hbL (by simp; omega) hb1
  have okA := fedS_ok w (d.take c) hok hb1
  have okD := fedS_ok w d hok hdb
  have lenA := fedS_lenK w (d.take c) hok hb1
  have lenB := fedS_lenK w (d.drop c) okA hb2
  obtain ⟨eB, _⟩ := z_FM w (fedS w L (d.take c)).1 (d.drop c) (lnOk_small okA) (ask_ok hk okA) ⟨okA.2.2.2.2.1, okA.2.2.2.2.2⟩ (by simp; omega) hb2
  have hap := fedS_app w (d.take c) (d.drop c) L
  rw [List.take_append_drop] at hap
  have ha1 := congrArg Prod.fst hap
  have ha2 := congrArg Prod.snd hap
  simp only at ha1 ha2
  rw [← ha1] at eB
  obtain ⟨w2, L2, y, hD2, y0, y1, eD2⟩ := z_DrawFeedLine l hl
  obtain ⟨c2, O2, L3, eF, eG⟩ := z_FL w2 L2 y (lnD_small hD2) hD2.2.2.2 y0 y1
  have smD := lnOk_small okD
  have eQ := s_QueueSize (fedS w L d).1 smD (lineF_ok okD) okD.1
  have eL := s_impl_LineFault (fedS w L d).1 smD
  rw [lineF_ok okD] at eL
  have eM := s_SameLines (fedS w L d).1 smD
  have h40 := okD.2.1
  have g1 : (d.take c).length ≤ 200 := by simp; omega
  have g2 : (d.drop c).length ≤ 200 := by simp; omega
  have r1 : (fedS w L (d.take c)).2.length ≤ 120000 := by omega
  have r2 : (fedS w (fedS w L (d.take c)).1 (d.drop c)).2.length ≤ 120000 := by omega
  have eW := s_lwSame (fedS w L d).2
  have eV := s_lwSame O2
  clear hap ha1 lenA lenB okA okD smD hbL hok g1 g2 hD hD2
  rw [ha2] at eW eI eS
  generalize (fedS w (fedS w L (d.take c)).1 (d.drop c)).2 = cb at *
  generalize (fedS w L (d.take c)).2 = ca at *
  generalize (fedS w L d).1 = LD at *
  generalize (fedS w L (d.take c)).1 = LA at *
  have p1 := fun m n o c => apL_frS (E := eU8) (m := m) (sz := 1) (bytes := 1) (n := n) (o := o) (len := 0) (c := c) (l := ca) rfl (by omega) (by omega)
  have p2 := fun m n o c => apL_frS (E := eU8) (m := m) (sz := 1) (bytes := 1) (n := n) (o := o) (len := ca.length) (c := c) (l := cb) rfl (by omega) (by omega)
  have b0' : ∀ m n cs k, apB m (some (ownB eU8 [])) n 0 0 1 cs k = some (slO m.length k, m.set n ⟨cellsE eU8 [], 1, true, false⟩ ++ [⟨cs, 1, true, true⟩]) := fun m n cs k => by
    have := apB_own (E := eU8) (m := m) (l := []) (n := n) (sz := 1) (cs := cs) (k := k) rfl
    simpa [cellsE] using this
  have p3 := fun m n cs k => apB_own (E := eU8) (m := m) (l := ca) (n := n) (sz := 1) (cs := cs) (k := k) rfl
  have k1 : (⟨cellsE eU8 ca, 1, true, true⟩ : Blk) = ownB eU8 ca := rfl
  have k0 : (⟨[], 1, true, true⟩ : Blk) = ownB eU8 [] := rfl
  have k2 : (⟨cellsE eU8 ca ++ cellsE eU8 cb, 1, true, true⟩ : Blk) = ownB eU8 (ca ++ cb) := mk_own2 eU8 _ _ 1 rfl
  have f1 := fun k m => fzO_own eU8 k m (ca ++ cb)
  simp only [List.length_append] at f1
  have hq : ((LD.size : Nat) : Int) ≤ 40 := by omega
  generalize LD.size = sz at *
  obtain ⟨rows, cur, t, nn⟩ := L
  obtain ⟨rows2, cur2, t2', nn2⟩ := L2
  obtain ⟨rows3, cur3, t3, nn3⟩ := L3
  obtain ⟨rows4, cur4, t4, nn4⟩ := LD
  obtain ⟨rows5, cur5, t5, nn5⟩ := LA
  generalize hda : d.take c = da at *
  generalize hdb' : d.drop c = db at *
  simp (maxSteps := 4000000) -implicitDefEqProofs [-icall_eq, X_laws_FnFeeds, retK_eq, b0, hbig, eD, eI, eS, w1, e3, t1, t2, eA, eB, eD2, eF, eG, eQ, eL, eM, hq, p1, p2, b0', p3, k1, k0, k2, f1, eW, eV]
def good : List Nat := [25, 5]
theorem good_ok : goodB CT good = true := by kernel_rfl
theorem all_FnFeeds : ∀ xs, TypedAll CT [25] xs → Fz CT 5 xs (.bool true)
  | [a], h => by
    obtain ⟨l, rfl, _, hb⟩ := typed_code (s := 25) (e := 5) h.1 rfl rfl rfl
    exact fz_law ok_X_laws_FnFeeds (s_FnFeeds l hb) (by simp)
  | [], h => h.elim
  | _ :: _ :: _, h => h.2.elim
end Go.Ab
