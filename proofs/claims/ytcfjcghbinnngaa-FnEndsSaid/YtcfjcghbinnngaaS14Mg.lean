/- What the functions of the program answer, for all arguments that the theorems name as conditions. -/
import Derived.Test.YtcfjcghbinnngaaS14Mf
set_option linter.unusedVariables false
set_option linter.unusedSimpArgs false
namespace Go.Ab
set_option maxHeartbeats 4000000
theorem h_core {m : Mem} {b : Nat} {w : WayT} {l : LnT} {ec : List Int} {ns : List Nat} (H : Fd m b w l ec ns) (y : Int) (y0 : 0 ≤ y) (y1 : y < 256) (ht : l.t = false) (h20 : hs w 64 = false ∨ ¬ y = 13) (hb : bOk l.cur) (hsz : l.size ≤ 40) (h40 : l.rows.length ≤ 40) (hs' : l.small) (hn0 : -1000 ≤ l.n) (hn1 : l.n ≤ 1000) (he : ec.length + 1000 < 1000000000) : HearR m b w ns (coreS w l y) ec (X_impl_feeder_hear [ptr b, .int .u8 y] m) := by
  have k64 := f_has w 64 k64_ (by omega) m
  have k32 := f_has w 32 k32_ (by omega) m
  have k1 := f_has w 1 k1_ (by omega) m
  have i5 := f_isP w.f y y0 y1 m
  have i6 := f_isP w.g y y0 y1 m
  have hcl : l.cur.length ≤ 40 := by unfold LnT.size at hsz; omega
  have rm := H.room 1 (by omega) (by omega) hs' h40
  have pc := H.piece h40
  unfold coreS
  cases c : hs w 32 && isS w.f y
  · rw [if_neg (by simp)]
    have hcond : hs w 32 = false ∨ (hs w 32 = true ∧ isS w.f y = false) := by
      cases h : hs w 32
      · exact .inl rfl
      · rw [h] at c; exact .inr ⟨rfl, by simpa using c⟩
    cases c1 : hs w 1
    · -- not edited
      rw [c1] at k1
      rw [if_neg (by simp)]
      unfold rawS
      by_cases hok : l.rows.length < 40 ∧ l.size < 40
      · rw [if_pos hok]
        have g1 : decide ((l.size : Int) + 1 ≤ 40) = true := by simp; omega
        have g2 : decide (l.rows.length < 40) = true := by simp; omega
        rw [g1] at rm
        rw [g2] at pc
        obtain ⟨rv, ev, hv, r, ix, ne, nh, ps, cc, rfl, H⟩ := H
        have hbox := H.box
        rw [ht] at hbox
        obtain ⟨m1, ns1, e1, b1, F1, T1⟩ := push_one H y (by omega)
        obtain ⟨m2, ns2, e2, F2, T2⟩ := d_showByte F1 y (by omega)
        refine ⟨m2, ns2, ?_, F2, T1.trans T2⟩
        rw [ht] at b1 e2
        rcases hcond with h | ⟨h, h'⟩ <;> rcases h20 with q | q
        · rw [h] at k32; rw [q] at k64
          simp -implicitDefEqProofs [-fcall_eq, X_impl_feeder_hear, hbox, k64, k32, k1, rm, pc, e1, b1, e2]
        · rw [h] at k32
          cases c64 : hs w 64 <;> rw [c64] at k64 <;> simp -implicitDefEqProofs [-fcall_eq, X_impl_feeder_hear, hbox, k64, q, k32, k1, rm, pc, e1, b1, e2]
        · rw [h] at k32; rw [q] at k64; rw [h'] at i5
          simp -implicitDefEqProofs [-fcall_eq, X_impl_feeder_hear, hbox, k64, k32, i5, k1, rm, pc, e1, b1, e2]
        · rw [h] at k32; rw [h'] at i5
          cases c64 : hs w 64 <;> rw [c64] at k64 <;> simp -implicitDefEqProofs [-fcall_eq, X_impl_feeder_hear, hbox, k64, q, k32, i5, k1, rm, pc, e1, b1, e2]
      · rw [if_neg hok]
        refine ⟨m, ns, ?_, by simpa using H, .refl _ _⟩
        obtain ⟨rv, ev, hv, hbox, _⟩ := H.box
        rw [ht] at hbox
        have hcc : decide ((l.size : Int) + 1 ≤ 40) = false ∨ (decide ((l.size : Int) + 1 ≤ 40) = true ∧ decide (l.rows.length < 40) = false) := by
          by_cases h : l.size < 40
          · right
            simp
            omega
          · left
            simp
            omega
        rcases hcc with g | ⟨g, g'⟩ <;> rcases hcond with h | ⟨h, h'⟩ <;> rcases h20 with q | q
        · rw [g] at rm; rw [h] at k32; rw [q] at k64
          simp -implicitDefEqProofs [-fcall_eq, X_impl_feeder_hear, hbox, k64, k32, k1, rm]
        · rw [g] at rm; rw [h] at k32
          cases c64 : hs w 64 <;> rw [c64] at k64 <;> simp -implicitDefEqProofs [-fcall_eq, X_impl_feeder_hear, hbox, k64, q, k32, k1, rm]
        · rw [g] at rm; rw [h] at k32; rw [q] at k64; rw [h'] at i5
          simp -implicitDefEqProofs [-fcall_eq, X_impl_feeder_hear, hbox, k64, k32, i5, k1, rm]
        · rw [g] at rm; rw [h] at k32; rw [h'] at i5
          cases c64 : hs w 64 <;> rw [c64] at k64 <;> simp -implicitDefEqProofs [-fcall_eq, X_impl_feeder_hear, hbox, k64, q, k32, i5, k1, rm]
        · rw [g] at rm; rw [g'] at pc; rw [h] at k32; rw [q] at k64
          simp -implicitDefEqProofs [-fcall_eq, X_impl_feeder_hear, hbox, k64, k32, k1, rm, pc]
        · rw [g] at rm; rw [g'] at pc; rw [h] at k32
          cases c64 : hs w 64 <;> rw [c64] at k64 <;> simp -implicitDefEqProofs [-fcall_eq, X_impl_feeder_hear, hbox, k64, q, k32, k1, rm, pc]
        · rw [g] at rm; rw [g'] at pc; rw [h] at k32; rw [q] at k64; rw [h'] at i5
          simp -implicitDefEqProofs [-fcall_eq, X_impl_feeder_hear, hbox, k64, k32, i5, k1, rm, pc]
        · rw [g] at rm; rw [g'] at pc; rw [h] at k32; rw [h'] at i5
          cases c64 : hs w 64 <;> rw [c64] at k64 <;> simp -implicitDefEqProofs [-fcall_eq, X_impl_feeder_hear, hbox, k64, q, k32, i5, k1, rm, pc]
    · -- edited
      rw [c1] at k1
      rw [if_pos rfl]
      unfold canonS
      have pre : ∀ (R : Option VM), (∀ k64' : Bool, hs w 64 = k64' → (k64' = false ∨ ¬ y = 13) → ∀ k32' : Bool, hs w 32 = k32' → (k32' = false ∨ isS w.f y = false) → X_impl_feeder_hear [ptr b, .int .u8 y] m = R) → X_impl_feeder_hear [ptr b, .int .u8 y] m = R := by
        intro R h
        refine h _ rfl h20 _ rfl ?_
        rcases hcond with q | ⟨_, q⟩
        · exact .inl q
        · exact .inr q
      obtain ⟨rv, ev, hv, hbox, _⟩ := H.box
      rw [ht] at hbox
      cases cg : isS w.g y
      · rw [cg] at i6
        rw [if_neg (by simp)]
        obtain ⟨m1, ns1, l1, ec1, e1, F1, T1, hq⟩ := d_erase H y y0 y1 hb (by omega) (by omega)
        cases cer : isS w.b y || (isS w.d y || isS w.c y)
        · rw [cer] at e1 hq
          rw [if_neg (by simp)] at hq ⊢
          cases hq
          have i4 := f_isP w.e y y0 y1 m1
          have rm1 := F1.room 1 (by omega) (by omega) hs' h40
          have pc1 := F1.piece h40
          obtain ⟨rv1, ev1, hv1, hbox1, _⟩ := F1.box
          rw [ht] at hbox1
          cases ce : isS w.e y
          · rw [ce] at i4
            rw [if_neg (by simp)]
            by_cases h10 : y = 10
            · subst h10
              rw [if_pos rfl]
              by_cases hen : endB l 1
              · rw [if_pos hen]
                have g1 : decide ((l.size : Int) + 1 ≤ 40) = true := by unfold endB at hen; simp; omega
                have g2 : decide (l.rows.length < 40) = true := by unfold endB at hen; simp; omega
                rw [g1] at rm1
                rw [g2] at pc1
                obtain ⟨rv2, ev2, hv2, r2, ix2, ne2, nh2, ps2, cc2, rfl, F1⟩ := F1
                have hbox1 := F1.box
                rw [ht] at hbox1
                have H1 := F1.app (ownB eU8 [10]) (fun _ => own_low _ _ _)
                obtain ⟨m3, e3, b3, F3, T3⟩ := push_ed H1 (Bs.new m1 [10]) (by simp) (by simp; omega)
                obtain ⟨m4, ns4, e4, F4, T4⟩ := d_end ⟨_, _, _, _, _, _, _, _, _, rfl, F3⟩ (by show l.rows.length < 1000000; omega)
                obtain ⟨m5, ns5, e5, F5, T5⟩ := d_showByte F4 10 (by omega)
                refine ⟨m5, ns5, ?_, F5, T1.trans ((T3.app).trans (T4.trans T5))⟩
                rw [List.length_append, List.length_singleton] at e3 e4
                rw [ht] at b3 e4
                have e3' : apL (m1 ++ [⟨[.int .u8 10], 1, true, true⟩]) 1 1 ev2 (slO m1.length 1) = some (slO (m1.length + 1) (l.cur.length + 1), m3) := e3
                have e4' : dcall X_impl_feeder_end [ptr b] (m3.set b (fdB w rv2 (slO (m1.length + 1) (l.cur.length + 1)) false l.n hv2)) = some (.tuple #[], m4) := e4
                refine pre _ fun k64' q1 q2 k32' q3 q4 => ?_
                rw [q1] at k64
                rw [q3] at k32
                rcases q2 with rfl | q2 <;> rcases q4 with rfl | q4
                · simp -implicitDefEqProofs [-fcall_eq, X_impl_feeder_hear, hbox, k64, k32, k1, i6, e1, hbox1, i4, rm1, pc1, e3', b3, e4', e5]
                · rw [q4] at i5
                  cases k32' <;> simp -implicitDefEqProofs [-fcall_eq, X_impl_feeder_hear, hbox, k64, k32, i5, k1, i6, e1, hbox1, i4, rm1, pc1, e3', b3, e4', e5]
                · cases k64' <;> simp -implicitDefEqProofs [-fcall_eq, X_impl_feeder_hear, hbox, k64, k32, k1, i6, e1, hbox1, i4, rm1, pc1, e3', b3, e4', e5]
                · rw [q4] at i5
                  cases k64' <;> cases k32' <;> simp -implicitDefEqProofs [-fcall_eq, X_impl_feeder_hear, hbox, k64, k32, i5, k1, i6, e1, hbox1, i4, rm1, pc1, e3', b3, e4', e5]
              · rw [if_neg hen]
                refine ⟨m1, ns1, ?_, by simpa using F1, T1⟩
                have hcc : decide ((l.size : Int) + 1 ≤ 40) = false ∨ (decide ((l.size : Int) + 1 ≤ 40) = true ∧ decide (l.rows.length < 40) = false) := by
                  unfold endB at hen
                  by_cases h : l.size < 40
                  · right
                    simp
                    omega
                  · left
                    simp
                    omega
                refine pre _ fun k64' q1 q2 k32' q3 q4 => ?_
                rw [q1] at k64
                rw [q3] at k32
                have rmc : ∃ t1 t2 : Bool, fcall X_impl_feeder_room [ptr b, .int .i64 1] m1 = some (.bool t1, m1) ∧ fcall X_impl_feeder_piece [ptr b] m1 = some (.bool t2, m1) ∧ (t1 = false ∨ t2 = false) := by
                  refine ⟨_, _, rm1, pc1, ?_⟩
                  rcases hcc with g | ⟨_, g⟩
                  · exact .inl g
                  · exact .inr g
                obtain ⟨t1, t2, rm1, pc1, hh⟩ := rmc
                have fin : ∀ a c : Bool, (a = false ∨ ¬ (10 : Int) = 13) → (c = false ∨ isS w.f 10 = false) → fcall X_impl_Way_has [wayV w, .int .i64 64] m = some (.bool a, m) → fcall X_impl_Way_has [wayV w, .int .i64 32] m = some (.bool c, m) → X_impl_feeder_hear [ptr b, .int .u8 10] m = some (.tuple #[], m1) := by
                  intro a c ha hc2 k64 k32
                  cases c
                  · cases a <;> cases t1 <;> cases t2 <;> simp at hh <;> simp -implicitDefEqProofs [-fcall_eq, X_impl_feeder_hear, hbox, k64, k32, k1, i6, e1, hbox1, i4, rm1, pc1]
                  · rcases hc2 with hc2 | hc2
                    · cases hc2
                    rw [hc2] at i5
                    cases a <;> cases t1 <;> cases t2 <;> simp at hh <;> simp -implicitDefEqProofs [-fcall_eq, X_impl_feeder_hear, hbox, k64, k32, i5, k1, i6, e1, hbox1, i4, rm1, pc1]
                exact fin _ _ q2 q4 k64 k32
            · rw [if_neg h10]
              obtain ⟨m3, ns3, e3, F3, T3⟩ := d_take F1 y hs' h40 (by omega) (by omega)
              refine ⟨m3, ns3, ?_, F3, T1.trans T3⟩
              refine pre _ fun k64' q1 q2 k32' q3 q4 => ?_
              rw [q1] at k64
              rw [q3] at k32
              cases k32'
              · rcases q2 with rfl | q2
                · simp -implicitDefEqProofs [-fcall_eq, X_impl_feeder_hear, hbox, k64, k32, k1, i6, e1, hbox1, i4, h10, e3]
                · cases k64' <;> simp -implicitDefEqProofs [-fcall_eq, X_impl_feeder_hear, hbox, k64, q2, k32, k1, i6, e1, hbox1, i4, h10, e3]
              · rcases q4 with q4 | q4
                · cases q4
                rw [q4] at i5
                rcases q2 with rfl | q2
                · simp -implicitDefEqProofs [-fcall_eq, X_impl_feeder_hear, hbox, k64, k32, i5, k1, i6, e1, hbox1, i4, h10, e3]
                · cases k64' <;> simp -implicitDefEqProofs [-fcall_eq, X_impl_feeder_hear, hbox, k64, q2, k32, i5, k1, i6, e1, hbox1, i4, h10, e3]
          · rw [ce] at i4
            rw [if_pos rfl]
            by_cases hen : endB l 0
            · rw [if_pos hen]
              have g2 : decide (l.rows.length < 40) = true := by unfold endB at hen; simp; omega
              rw [g2] at pc1
              obtain ⟨m3, ns3, e3, F3, T3⟩ := d_end F1 (by omega)
              refine ⟨m3, ns3, ?_, by simpa using F3, T1.trans T3⟩
              refine pre _ fun k64' q1 q2 k32' q3 q4 => ?_
              rw [q1] at k64
              rw [q3] at k32
              cases k32'
              · rcases q2 with rfl | q2
                · simp -implicitDefEqProofs [-fcall_eq, X_impl_feeder_hear, hbox, k64, k32, k1, i6, e1, hbox1, i4, pc1, e3]
                · cases k64' <;> simp -implicitDefEqProofs [-fcall_eq, X_impl_feeder_hear, hbox, k64, q2, k32, k1, i6, e1, hbox1, i4, pc1, e3]
              · rcases q4 with q4 | q4
                · cases q4
                rw [q4] at i5
                rcases q2 with rfl | q2
                · simp -implicitDefEqProofs [-fcall_eq, X_impl_feeder_hear, hbox, k64, k32, i5, k1, i6, e1, hbox1, i4, pc1, e3]
                · cases k64' <;> simp -implicitDefEqProofs [-fcall_eq, X_impl_feeder_hear, hbox, k64, q2, k32, i5, k1, i6, e1, hbox1, i4, pc1, e3]
            · rw [if_neg hen]
              have g2 : decide (l.rows.length < 40) = false := by unfold endB at hen; simp; omega
              rw [g2] at pc1
              refine ⟨m1, ns1, ?_, by simpa using F1, T1⟩
              refine pre _ fun k64' q1 q2 k32' q3 q4 => ?_
              rw [q1] at k64
              rw [q3] at k32
              cases k32'
              · rcases q2 with rfl | q2
                · simp -implicitDefEqProofs [-fcall_eq, X_impl_feeder_hear, hbox, k64, k32, k1, i6, e1, hbox1, i4, pc1]
                · cases k64' <;> simp -implicitDefEqProofs [-fcall_eq, X_impl_feeder_hear, hbox, k64, q2, k32, k1, i6, e1, hbox1, i4, pc1]
              · rcases q4 with q4 | q4
                · cases q4
                rw [q4] at i5
                rcases q2 with rfl | q2
                · simp -implicitDefEqProofs [-fcall_eq, X_impl_feeder_hear, hbox, k64, k32, i5, k1, i6, e1, hbox1, i4, pc1]
                · cases k64' <;> simp -implicitDefEqProofs [-fcall_eq, X_impl_feeder_hear, hbox, k64, q2, k32, i5, k1, i6, e1, hbox1, i4, pc1]
        · rw [cer] at e1 hq
          rw [if_pos rfl] at hq ⊢
          cases hq
          refine ⟨m1, ns1, ?_, F1, T1⟩
          refine pre _ fun k64' q1 q2 k32' q3 q4 => ?_
          rw [q1] at k64
          rw [q3] at k32
          cases k32'
          · rcases q2 with rfl | q2
            · simp -implicitDefEqProofs [-fcall_eq, X_impl_feeder_hear, hbox, k64, k32, k1, i6, e1]
            · cases k64' <;> simp -implicitDefEqProofs [-fcall_eq, X_impl_feeder_hear, hbox, k64, q2, k32, k1, i6, e1]
          · rcases q4 with q4 | q4
            · cases q4
            rw [q4] at i5
            rcases q2 with rfl | q2
            · simp -implicitDefEqProofs [-fcall_eq, X_impl_feeder_hear, hbox, k64, k32, i5, k1, i6, e1]
            · cases k64' <;> simp -implicitDefEqProofs [-fcall_eq, X_impl_feeder_hear, hbox, k64, q2, k32, i5, k1, i6, e1]
      · rw [cg] at i6
        rw [if_pos rfl]
        obtain ⟨rv2, ev2, hv2, b2, F2, T2⟩ := H.setT true
        refine ⟨_, _, ?_, by simpa using F2, T2⟩
        rw [ht] at b2
        rw [hbox] at b2
        cases b2
        refine pre _ fun k64' q1 q2 k32' q3 q4 => ?_
        rw [q1] at k64
        rw [q3] at k32
        cases k32'
        · rcases q2 with rfl | q2
          · simp -implicitDefEqProofs [-fcall_eq, X_impl_feeder_hear, hbox, k64, k32, k1, i6]
          · cases k64' <;> simp -implicitDefEqProofs [-fcall_eq, X_impl_feeder_hear, hbox, k64, q2, k32, k1, i6]
        · rcases q4 with q4 | q4
          · cases q4
          rw [q4] at i5
          rcases q2 with rfl | q2
          · simp -implicitDefEqProofs [-fcall_eq, X_impl_feeder_hear, hbox, k64, k32, i5, k1, i6]
          · cases k64' <;> simp -implicitDefEqProofs [-fcall_eq, X_impl_feeder_hear, hbox, k64, q2, k32, i5, k1, i6]
  · rw [if_pos rfl]
    have c32 : hs w 32 = true := by
      cases h : hs w 32
      · rw [h] at c; simp at c
      · rfl
    have cf : isS w.f y = true := by rw [c32] at c; simpa using c
    rw [c32] at k32
    rw [cf] at i5
    obtain ⟨rv, ev, hv, ns1, hbox, F1, T1⟩ := H.brk (min 999 (l.n + 1))
    obtain ⟨m2, ns2, e2, F2, T2⟩ := d_showByte F1 y (by omega)
    refine ⟨m2, ns2, ?_, F2, T1.trans T2⟩
    have hwr : IntKind.i64.wrap (l.n + 1) = l.n + 1 := wrap_i64 (by omega) (by omega)
    have hmin : min (l.n + 1) 999 = min 999 (l.n + 1) := Int.min_comm _ _
    have hset : ∀ x : Blk, (m.set b x)[b]? = some x := fun x => List.getElem?_set_self (List.getElem?_eq_some_iff.1 hbox).1
    rw [ht] at hbox e2
    rcases h20 with q | q
    · rw [q] at k64
      simp -implicitDefEqProofs [-fcall_eq, X_impl_feeder_hear, hbox, k64, k32, i5, hwr, hmin, hset, e2]
    · cases c64 : hs w 64 <;> rw [c64] at k64 <;> simp -implicitDefEqProofs [-fcall_eq, X_impl_feeder_hear, hbox, k64, q, k32, i5, hwr, hmin, hset, e2]
end Go.Ab
namespace Go.Ab
set_option maxHeartbeats 4000000
theorem h_hear {m : Mem} {b : Nat} {w : WayT} {l : LnT} {ec : List Int} {ns : List Nat} (H : Fd m b w l ec ns) (y : Int) (y0 : 0 ≤ y) (y1 : y < 256) (hok : lnOk l) (he : ec.length + 1000 < 1000000000) : HearR m b w ns (feedS w l y) ec (X_impl_feeder_hear [ptr b, .int .u8 y] m) := by
  have hsm := lnOk_small hok
  obtain ⟨g1, g2, g3, g4, g5, g6⟩ := hok
  have hcl : l.cur.length ≤ 40 := by unfold LnT.size at g2; omega
  unfold feedS
  cases ht : l.t
  · rw [if_neg (by simp)]
    cases c64 : hs w 64
    · have e : (if (decide (y = 13) && false) = true then (10 : Int) else y) = y := by simp
      rw [e]
      exact h_core H y y0 y1 ht (.inl c64) g6 g2 g1 hsm (by omega) (by omega) he
    · by_cases h13 : y = 13
      · subst h13
        have e : (if (decide ((13 : Int) = 13) && true) = true then (10 : Int) else 13) = 10 := by simp
        rw [e, h_ret H ht c64]
        exact h_core H 10 (by omega) (by omega) ht (.inr (by omega)) g6 g2 g1 hsm (by omega) (by omega) he
      · have e : (if (decide (y = 13) && true) = true then (10 : Int) else y) = y := by simp [h13]
        rw [e]
        exact h_core H y y0 y1 ht (.inr h13) g6 g2 g1 hsm (by omega) (by omega) he
  · rw [if_pos rfl]
    exact h_lit H y ht hsm g1 (by omega) (by omega)
theorem d_hear {m : Mem} {b : Nat} {w : WayT} {l : LnT} {ec : List Int} {ns : List Nat} (H : Fd m b w l ec ns) (y : Int) (y0 : 0 ≤ y) (y1 : y < 256) (hok : lnOk l) (he : ec.length + 1000 < 1000000000) : ∃ m' ns', dcall X_impl_feeder_hear [ptr b, .int .u8 y] m = some (.tuple #[], m') ∧ Fd m' b w (feedS w l y).1 (ec ++ (feedS w l y).2) ns' ∧ Tr m m' ns ns' := by
  rw [dc2 H.cl (H.lt b H.mem) (.inert _ rfl)]
  exact h_hear H y y0 y1 hok he
def fedS (w : WayT) : LnT → List Int → LnT × List Int
  | l, [] => (l, [])
  | l, y :: r => ((fedS w (feedS w l y).1 r).1, (feedS w l y).2 ++ (fedS w (feedS w l y).1 r).2)
theorem goneS_len (w : WayT) (c : List Int) (y : Int) : (goneS w c y).2.length ≤ 12 * c.length + 9 := by
  have g : ∀ o k, (gnO w y o k).length ≤ o.length + 3 := by
    intro o k
    have := ecS_len w y
    unfold gnO
    split
    · omega
    · split
      · simp; omega
      · omega
  unfold goneS
  split
  · split
    · have := g [] false; simp at this; simp; omega
    · have := g (drO w c) false
      have := drO_len w c
      simp only
      omega
  · split
    · have := g (wordS w c).2 false
      have h1 := dwS_len w (fun b => decide (b = 32)) c.length c
      have h2 := dwS_len w (fun b => decide (¬ b = 32)) c.length (dwS w (fun b => decide (b = 32)) c.length c).1
      have : (wordS w c).2.length ≤ 12 * c.length := by
        show ((dwS w (fun b => decide (b = 32)) c.length c).2 ++ (dwS w (fun b => decide (¬ b = 32)) c.length (dwS w (fun b => decide (b = 32)) c.length c).1).2).length ≤ _
        simp only [List.length_append]
        omega
      simp only
      omega
    · have := g (dwS w (fun _ => true) c.length c).2 true
      have := dwS_len w (fun _ => true) c.length c
      simp only
      omega
theorem feedS_len (w : WayT) {l : LnT} (y : Int) (h : lnOk l) : (feedS w l y).2.length ≤ 600 := by
  obtain ⟨g1, g2, g3, g4, g5, g6⟩ := h
  have hcl : l.cur.length ≤ 40 := by unfold LnT.size at g2; omega
  have ht : ∀ l y, (takeS w l y).2.length ≤ 600 := by
    intro l y
    unfold takeS
    have := ecS_len w y
    split <;> simp <;> omega
  unfold feedS
  split
  · exact ht _ _
  · generalize (if (decide (y = 13) && hs w 64) = true then (10 : Int) else y) = y'
    unfold coreS
    have := ecS_len w y'
    split
    · simp only; omega
    · split
      · unfold canonS
        split
        · simp
        · split
          · have := goneS_len w l.cur y'
            simp only
            omega
          · split
            · split <;> simp
            · split
              · have := ecS_len w 10
                split <;> simp <;> omega
              · exact ht _ _
      · unfold rawS
        split <;> simp <;> omega
def Dat (m : Mem) (v : Value) (d : List Int) : Prop := ∀ (i : Nat), i < d.length → ∃ p, ixaX 1 v (.int .i64 i) = some p ∧ ld1 m p = some (.int .u8 (gt d i))
theorem l_fed {b a : Nat} {w : WayT} {v : Value} {d : List Int} (k0 : Nat) (r : List Int) : ∀ (p : List Int) (q : Nat) (m : Mem) (l : LnT) (ec : List Int) (ns : List Nat), d = p ++ r → r.length < q → d.length < 1000000 → bOk d → lnOk l → Fd m b w l ec ns → a < m.length → a ∉ ns → (∀ m' ns', Tr m m' ns ns' → Dat m' v d) → ec.length + 600 * r.length + 1000 < 1000000000 → ∃ m' ns', L_impl_fed k0 (q + 1) 0 [ptr a, ptr b, v, .int .i64 d.length, .int .i64 p.length] m = L_impl_fed k0 (q + 1 - r.length) 0 [ptr a, ptr b, v, .int .i64 d.length, .int .i64 d.length] m' ∧ Fd m' b w (fedS w l r).1 (ec ++ (fedS w l r).2) ns' ∧ Tr m m' ns ns' := by
  induction r with
  | nil =>
    intro p q m l ec ns hd hq hdl hb hok H ha ha2 hv he
    rw [List.append_nil] at hd
    subst hd
    exact ⟨m, ns, rfl, by simpa [fedS] using H, .refl _ _⟩
  | cons y r ih =>
    intro p q m l ec ns hd hq hdl hb hok H ha ha2 hv he
    simp only [List.length_cons] at hq he
    have hy := hb y (by rw [hd]; simp)
    obtain ⟨m1, ns1, e1, F1, T1⟩ := d_hear H y hy.1 hy.2 hok (by omega)
    have hfl := feedS_len w y hok
    obtain ⟨q, rfl⟩ : ∃ n, q = n + 1 := ⟨q - 1, by omega⟩
    have ha3 : a ∉ ns1 := fun h => (T1.nam a h).elim ha2 fun h => by omega
    obtain ⟨m2, ns2, e2, F2, T2⟩ := ih (p ++ [y]) q m1 (feedS w l y).1 _ ns1 (by simp [hd]) (by omega) hdl hb (feedS_ok w hok hy.1 hy.2) F1 (by have := T1.len; omega) ha3 (fun m' ns' T => hv m' ns' (T1.trans T)) (by simp; omega)
    refine ⟨m2, ns2, ?_, ?_, T1.trans T2⟩
    · obtain ⟨pp, a1, a2⟩ := hv m ns (.refl _ _) p.length (by rw [hd]; simp)
      have hg : gt d p.length = y := by rw [hd]; exact gt_mid p y r
      rw [hg] at a2
      have hw := wrap_next (n := p.length) (by rw [hd] at hdl; simp at hdl; omega)
      have e5 : (p.length : Int) < (d.length : Int) := by rw [hd]; simp
      rw [show q + 1 + 1 - (y :: r).length = q + 1 - r.length by simp]
      rw [← e2]
      simp only [List.length_append, List.length_singleton]
      simp -implicitDefEqProofs [-fcall_eq, L_impl_fed, a1, a2, e5, hw, e1]
    · simpa [fedS] using F2
end Go.Ab
namespace Go.Ab
set_option maxHeartbeats 4000000
def nE (x : List Int) : EdT := if x = [] then none else some (x, [], x.length)
theorem oE_nE (x : List Int) : oE (nE x) = x := by
  unfold nE
  by_cases h : x = [] <;> simp [h]
theorem elP_nE (x : List Int) : elP (nE x) = elN x := by
  unfold nE elN
  by_cases h : x = [] <;> simp [h, elP]
theorem map_elP (l : List (List Int)) : (l.map nE).map elP = l.map elN := by
  rw [List.map_map]
  exact List.map_congr_left fun x _ => elP_nE x
theorem map_oE (l : List (List Int)) : (l.map nE).map oE = l := by
  rw [List.map_map]
  have : l.map (oE ∘ nE) = l.map id := List.map_congr_left fun x _ => oE_nE x
  rw [this, List.map_id]
theorem Closed.appL {m : Mem} : ∀ {L : Mem}, Closed m → (∀ b ∈ L, b.live = true → RNL inert (low (m.length + L.length)) b.cells b.cells) → Closed (m ++ L) := by
  intro L H hb n c hc hl
  rw [List.length_append]
  rcases Nat.lt_or_ge n m.length with h | h
  · rw [List.getElem?_append_left h] at hc
    exact (H n c hc hl).sub fun n n' e => low_mono (Nat.le_add_right _ _) e
  · rw [List.getElem?_append_right h] at hc
    exact hb c (List.mem_of_getElem? hc) hl
theorem sl_edN {M : Mem} {k : Nat} {cur : List Int} (h : cur ≠ [] → M[k]? = some (ownB eU8 cur)) : Sl M (edN k cur) cur (if cur = [] then [] else [k]) := by
  unfold edN
  by_cases h0 : cur = []
  · rw [if_pos h0, if_pos h0, h0]
    exact .nil
  · rw [if_neg h0, if_neg h0]
    exact .own k _ cur [] (by rw [List.append_nil]; exact h h0) (Nat.le_refl _)
theorem low_edN {N k : Nat} {cur : List Int} (h : cur ≠ [] → k < N) : RN inert (low N) (edN k cur) (edN k cur) := by
  unfold edN
  by_cases h0 : cur = []
  · rw [if_pos h0]
    exact .inert _ rfl
  · rw [if_neg h0]
    exact sl_low (h h0) _ _ _
theorem fd_start (M0 : Mem) (w : WayT) (l : LnT) (hc : Closed M0) (hl : l.rows.length < 1000000) : ∃ ns, Fd ((M0 ++ (famB (M0.length + 1 + (edM l.cur).length) 1 (l.rows.map elN) :: (edM l.cur ++ famM eU8 (l.rows.map elN)))) ++ [fdB w (slO M0.length l.rows.length) (edN (M0.length + 1) l.cur) l.t l.n nilW]) (M0 ++ (famB (M0.length + 1 + (edM l.cur).length) 1 (l.rows.map elN) :: (edM l.cur ++ famM eU8 (l.rows.map elN)))).length w l [] ns ∧ ∀ n ∈ ns, M0.length ≤ n := by
  have hN := famN_N l.rows
  have hEd := edM_le l.cur
  have hL : (M0 ++ (famB (M0.length + 1 + (edM l.cur).length) 1 (l.rows.map elN) :: (edM l.cur ++ famM eU8 (l.rows.map elN)))).length = M0.length + 1 + (edM l.cur).length + famN (l.rows.map elN) := by simp; omega
  have hcl : Closed (M0 ++ (famB (M0.length + 1 + (edM l.cur).length) 1 (l.rows.map elN) :: (edM l.cur ++ famM eU8 (l.rows.map elN)))) := by
    refine hc.appL fun b hb hlv => ?_
    rcases List.mem_cons.1 hb with rfl | hb
    · have hr := fam_rn eU8 (j := 7) (π := low (M0.length + (famB (M0.length + 1 + (edM l.cur).length) 1 (l.rows.map elN) :: (edM l.cur ++ famM eU8 (l.rows.map elN))).length)) (l.rows.map elN) (M0.length + 1 + (edM l.cur).length) (M0.length + 1 + (edM l.cur).length) (ok_N l.rows) (fun i hi => low_at (by simp; omega))
      exact rnL_sound hr
    · obtain ⟨i, hi, rfl⟩ := List.getElem_of_mem hb
      obtain ⟨x, e⟩ := own_all l.cur (l.rows.map elN) i hi
      rw [List.getElem?_eq_getElem hi] at e
      rw [Option.some.inj e]
      exact own_low _ _ _
  have at0 : ∀ (i : Nat) x, (famB (M0.length + 1 + (edM l.cur).length) 1 (l.rows.map elN) :: (edM l.cur ++ famM eU8 (l.rows.map elN)))[i]? = some x → ((M0 ++ (famB (M0.length + 1 + (edM l.cur).length) 1 (l.rows.map elN) :: (edM l.cur ++ famM eU8 (l.rows.map elN)))) ++ [fdB w (slO M0.length l.rows.length) (edN (M0.length + 1) l.cur) l.t l.n nilW])[M0.length + i]? = some x := by
    intro i x h
    have hi := (List.getElem?_eq_some_iff.1 h).1
    rw [List.getElem?_append_left (by rw [List.length_append]; omega), List.getElem?_append_right (by omega), Nat.add_sub_cancel_left, h]
  have hfam : Fam eU8 ((M0 ++ (famB (M0.length + 1 + (edM l.cur).length) 1 (l.rows.map elN) :: (edM l.cur ++ famM eU8 (l.rows.map elN)))) ++ [fdB w (slO M0.length l.rows.length) (edN (M0.length + 1) l.cur) l.t l.n nilW]) M0.length 1 (List.range' (M0.length + 1 + (edM l.cur).length) (famN (l.rows.map elN))) ((l.rows.map nE).map elP) := by
    rw [map_elP]
    refine Fam.of_row eU8 ?_ (fun i x h => ?_) (by omega) (ok_N l.rows)
    · exact at0 0 _ rfl
    · have := at0 (1 + (edM l.cur).length + i) x (by
        rw [show 1 + (edM l.cur).length + i = ((edM l.cur).length + i) + 1 by omega, List.getElem?_cons_succ, List.getElem?_append_right (by omega), Nat.add_sub_cancel_left, h])
      rwa [show M0.length + (1 + (edM l.cur).length + i) = M0.length + 1 + (edM l.cur).length + i by omega] at this
  have hsl : Sl ((M0 ++ (famB (M0.length + 1 + (edM l.cur).length) 1 (l.rows.map elN) :: (edM l.cur ++ famM eU8 (l.rows.map elN)))) ++ [fdB w (slO M0.length l.rows.length) (edN (M0.length + 1) l.cur) l.t l.n nilW]) (edN (M0.length + 1) l.cur) l.cur (if l.cur = [] then [] else [M0.length + 1]) := by
    refine sl_edN fun h => at0 1 _ ?_
    simp [edM, h]
  have hx : (edM l.cur).length = if l.cur = [] then 0 else 1 := by
    unfold edM
    by_cases h : l.cur = [] <;> simp [h]
  have hnod : ((M0 ++ (famB (M0.length + 1 + (edM l.cur).length) 1 (l.rows.map elN) :: (edM l.cur ++ famM eU8 (l.rows.map elN)))).length :: M0.length :: (List.range' (M0.length + 1 + (edM l.cur).length) (famN (l.rows.map elN)) ++ ((if l.cur = [] then [] else [M0.length + 1]) ++ []))).Nodup := by
    rw [hL, List.append_nil]
    refine List.nodup_cons.2 ⟨fun h => ?_, List.nodup_cons.2 ⟨fun h => ?_, ?_⟩⟩
    · simp only [List.mem_cons, List.mem_append, mem_range'] at h
      rcases h with h | h | h
      · omega
      · omega
      · split at h
        · cases h
        · rename_i h0
          rw [if_neg h0] at hx
          simp at h
          omega
    · simp only [List.mem_append, mem_range'] at h
      rcases h with h | h
      · omega
      · split at h
        · cases h
        · simp at h
    · rw [List.nodup_append]
      refine ⟨List.nodup_range', by split <;> simp, fun a ha c hc => ?_⟩
      rw [mem_range'] at ha
      split at hc
      · cases hc
      · rename_i h0
        rw [if_neg h0] at hx
        simp at hc
        omega
  have hbx : ((M0 ++ (famB (M0.length + 1 + (edM l.cur).length) 1 (l.rows.map elN) :: (edM l.cur ++ famM eU8 (l.rows.map elN)))) ++ [fdB w (slO M0.length l.rows.length) (edN (M0.length + 1) l.cur) l.t l.n nilW])[(M0 ++ (famB (M0.length + 1 + (edM l.cur).length) 1 (l.rows.map elN) :: (edM l.cur ++ famM eU8 (l.rows.map elN)))).length]? = some (fdB w (slO M0.length l.rows.length) (edN (M0.length + 1) l.cur) l.t l.n nilW) := by
    rw [List.getElem?_append_right (Nat.le_refl _), Nat.sub_self]
    rfl
  have hrs : Rs ((M0 ++ (famB (M0.length + 1 + (edM l.cur).length) 1 (l.rows.map elN) :: (edM l.cur ++ famM eU8 (l.rows.map elN)))) ++ [fdB w (slO M0.length l.rows.length) (edN (M0.length + 1) l.cur) l.t l.n nilW]) (slO M0.length l.rows.length) l.rows M0.length (List.range' (M0.length + 1 + (edM l.cur).length) (famN (l.rows.map elN))) (l.rows.map nE) l.rows.length := ⟨by rw [List.length_map], hfam, (map_oE _).symm⟩
  refine ⟨_, ⟨_, _, _, _, _, _, _, _, _, rfl, hbx, hrs, hsl, .nil, hnod, ?_⟩, ?_⟩
  · refine hcl.app fun _ => ?_
    have i : ∀ N k n, RN inert (low N) (.int k n) (.int k n) := fun N k n => .inert _ rfl
    refine .cons (i _ _ _) (.cons (i _ _ _) (.cons (i _ _ _) (.cons (i _ _ _) (.cons (i _ _ _) (.cons (i _ _ _) (.cons (i _ _ _) (.cons (sl_low (by rw [hL]; omega) _ _ _) (.cons ?_ (.cons (.inert _ rfl) (.cons (i _ _ _) (.cons (.inert _ rfl) .nil)))))))))))
    exact low_edN fun h => by rw [if_neg h] at hx; rw [hL]; omega
  · intro n hn
    simp only [List.mem_cons, List.mem_append, mem_range'] at hn
    rcases hn with h | h | h | h | h
    · rw [h, hL]; omega
    · omega
    · omega
    · split at h
      · cases h
      · simp at h; omega
    · cases h
end Go.Ab
namespace Go.Ab
set_option maxHeartbeats 4000000
abbrev zR8 : Blk := blk [.int .i64 0, .bool false, nilW, nilW, nilW, nilW, .bool false, .int .i64 0]
abbrev z12 : Blk := blk [.int .i64 0, .int .i64 0, .int .i64 0, .int .i64 0, .int .i64 0, .int .i64 0, .int .i64 0, nilW, nilW, .bool false, .int .i64 0, nilW]
structure FdO (m : Mem) (K : Nat) (l : LnT) (ec : List Int) (rv ev hv : Value) (r : Nat) (ix ne nh : List Nat) (ps : List EdT) (c : Nat) : Prop where
  rs : Rs m rv l.rows r ix ps c
  es : Sl m ev l.cur ne
  hs : Sl m hv ec nh
  nod : (r :: (ix ++ (ne ++ nh))).Nodup
  low : ∀ x ∈ r :: (ix ++ (ne ++ nh)), K ≤ x
theorem FdO.set {m : Mem} {K : Nat} {l : LnT} {ec : List Int} {rv ev hv : Value} {r : Nat} {ix ne nh : List Nat} {ps : List EdT} {c : Nat} (H : FdO m K l ec rv ev hv r ix ne nh ps c) (a : Nat) (x : Blk) (ha : a < K) : FdO (m.set a x) K l ec rv ev hv r ix ne nh ps c := by
  have ag : ∀ n ∈ r :: (ix ++ (ne ++ nh)), (m.set a x)[n]? = m[n]? := fun n hn => List.getElem?_set_ne (fun e => by have := H.low n hn; omega)
  refine ⟨H.rs.agree fun n hn => ag n ?_, H.es.agree fun n hn => ag n ?_, H.hs.agree fun n hn => ag n ?_, H.nod, H.low⟩
  · simp only [List.mem_cons, List.mem_append] at hn ⊢
    rcases hn with h | h <;> simp [h]
  · simp [hn]
  · simp [hn]
theorem d_fed {m : Mem} (w : WayT) (l : LnT) (v : Value) (d : List Int) (hc : Closed m) (hok : lnOk l) (hb : bOk d) (hdl : d.length ≤ 200) (hv : lenX v = some (.int .i64 d.length)) (hdat : ∀ m', (∀ n, n < m.length → m'[n]? = m[n]?) → Dat m' v d) (hlow : RN inert (low m.length) v v) : ∃ m' rv ev hv' r ix ne nh ps c, dcall X_impl_fed [wayV w, lnV l, v] m = some (lrV 0 false nilW hv' rv ev (fedS w l d).1.t (fedS w l d).1.n, m') ∧ FdO m' (m.length + 3) (fedS w l d).1 (fedS w l d).2 rv ev hv' r ix ne nh ps c ∧ (∀ n, n < m.length → m'[n]? = m[n]?) := by
  have hsm := lnOk_small hok
  have h40 := hok.1
  rw [dcall_eq hc (.cons (scal2_rn rfl) (.cons (scal2_rn rfl) (.cons hlow .nil)))]
  have i : ∀ N k n, RN inert (low N) (.int k n) (.int k n) := fun N k n => .inert _ rfl
  have hc0 : Closed (m ++ [wB w, blk (lnT l []), zR8]) := by
    refine hc.appL fun b hb' _ => ?_
    simp only [List.mem_cons, List.not_mem_nil, or_false] at hb'
    rcases hb' with rfl | rfl | rfl <;> exact .leaf rfl
  have hM0 : (m ++ [wB w, blk (lnT l []), zR8]).length = m.length + 3 := by simp
  have g0 : (m ++ [wB w, blk (lnT l []), zR8])[m.length]? = some (wB w) := by simp
  have g1 : (m ++ [wB w, blk (lnT l []), zR8])[m.length + 1]? = some (blk (lnT l [])) := by simp
  have g2 : (m ++ [wB w, blk (lnT l []), zR8])[m.length + 2]? = some zR8 := by simp
  have hcl := f_clone (m ++ [wB w, blk (lnT l []), zR8]) (lnV l) l (by simp) (by omega) hsm.2.1 hsm.2.2
  obtain ⟨ns, F0, hns⟩ := fd_start (m ++ [wB w, blk (lnT l []), zR8]) w l hc0 (by omega)
  have gr : ∀ n, n < m.length + 3 → ((m ++ [wB w, blk (lnT l []), zR8]) ++ (famB ((m ++ [wB w, blk (lnT l []), zR8]).length + 1 + (edM l.cur).length) 1 (l.rows.map elN) :: (edM l.cur ++ famM eU8 (l.rows.map elN))))[n]? = (m ++ [wB w, blk (lnT l []), zR8])[n]? := fun n hn => List.getElem?_append_left (by rw [hM0]; exact hn)
  have hedv : (edN ((m ++ [wB w, blk (lnT l []), zR8]).length + 1) l.cur).cells = #[edN ((m ++ [wB w, blk (lnT l []), zR8]).length + 1) l.cur] ∧ flat (edN ((m ++ [wB w, blk (lnT l []), zR8]).length + 1) l.cur) = true := by
    unfold edN
    split <;> exact ⟨rfl, rfl⟩
  rw [hM0] at hcl F0 hns gr hedv
  generalize hM1 : (m ++ [wB w, blk (lnT l []), zR8]) ++ (famB (m.length + 3 + 1 + (edM l.cur).length) 1 (l.rows.map elN) :: (edM l.cur ++ famM eU8 (l.rows.map elN))) = M1 at *
  have hM1l : m.length + 3 ≤ M1.length := by rw [← hM1, List.length_append, hM0]; omega
  have grM : ∀ n, n < m.length → ∀ m' ns', Tr (M1 ++ [fdB w (slO (m.length + 3) l.rows.length) (edN (m.length + 3 + 1) l.cur) l.t l.n nilW]) m' ns ns' → m'[n]? = m[n]? := by
    intro n hn m' ns' T
    rw [T.same n (by simp; omega) (fun h => by have := hns n h; omega), List.getElem?_append_left (by omega), gr n (by omega), List.getElem?_append_left hn]
  obtain ⟨m2, ns2, e2, F2, T2⟩ := l_fed (a := m.length + 2) (b := M1.length) (v := v) (d := d) m.length d [] (QQ - 1) _ l [] ns rfl (by unfold QQ; omega) (by omega) hb hok F0 (by simp; omega) (fun h => by have := hns _ h; omega) (fun m' ns' T => hdat m' fun n hn => grM n hn m' ns' T) (by simp; omega)
  have hlen := F2.lt
  have ha2 : m.length + 2 ∉ ns2 := fun h => by
    rcases T2.nam _ h with h | h
    · have := hns _ h; omega
    · simp at h; omega
  have hz : m2[m.length + 2]? = some zR8 := by
    rw [T2.same _ (by simp; omega) (fun h => by have := hns _ h; omega), List.getElem?_append_left (by omega), gr _ (by omega), g2]
  obtain ⟨rv, ev, hv', r, ix, ne, nh, ps, c, rfl, F2⟩ := F2
  have hbox := F2.box
  have hev := F2.es.val
  have hhv := F2.hs.val
  have hrv : rv.cells = #[rv] ∧ flat rv = true := by rw [F2.rs.val]; exact ⟨rfl, rfl⟩
  have hO : FdO m2 (m.length + 3) (fedS w l d).1 (fedS w l d).2 rv ev hv' r ix ne nh ps c := by
    have hF := F2.hs
    rw [List.nil_append] at hF
    refine ⟨F2.rs, F2.es, hF, (List.nodup_cons.1 F2.nod).2, fun x hx => ?_⟩
    rcases T2.nam x (List.mem_cons_of_mem _ hx) with h | h
    · have := hns _ h; omega
    · simp at h; omega
  refine ⟨_, rv, ev, hv', r, ix, ne, nh, ps, c, ?_, hO.set (m.length + 2) (blk (lrC 0 false nilW hv' rv ev (fedS w l d).1.t (fedS w l d).1.n)) (by omega), fun n hn => by rw [List.getElem?_set_ne (by omega)]; exact grM n hn m2 _ T2⟩
  have hq : QQ = QQ - 1 + 1 := by unfold QQ; omega
  obtain ⟨q', hq'⟩ : ∃ q', QQ - 1 + 1 - d.length = q' + 1 := ⟨QQ - 1 + 1 - d.length - 1, by unfold QQ; omega⟩
  have hexit : L_impl_fed m.length QQ 0 [ptr (m.length + 2), ptr M1.length, v, .int .i64 d.length, .int .i64 0] (M1 ++ [fdB w (slO (m.length + 3) l.rows.length) (edN (m.length + 3 + 1) l.cur) l.t l.n nilW]) = some (lrV 0 false nilW hv' rv ev (fedS w l d).1.t (fedS w l d).1.n, m2.set (m.length + 2) (blk (lrC 0 false nilW hv' rv ev (fedS w l d).1.t (fedS w l d).1.n))) := by
    rw [hq]
    refine e2.trans ?_
    rw [hq']
    have hset : ∀ x : Blk, (m2.set (m.length + 2) x)[m.length + 2]? = some x := fun x => List.getElem?_set_self (List.getElem?_eq_some_iff.1 hz).1
    simp -implicitDefEqProofs [L_impl_fed, hbox, hev.1, hev.2, hhv.1, hhv.2, hrv.1, hrv.2, hz, hset]
  have hst : stX (M1 ++ [z12]) 12 (ptr M1.length) (.agg (wayT w [slO (m.length + 3) l.rows.length, edN (m.length + 3 + 1) l.cur, .bool l.t, .int .i64 l.n, nilW]).toArray) = some (M1 ++ [fdB w (slO (m.length + 3) l.rows.length) (edN (m.length + 3 + 1) l.cur) l.t l.n nilW]) := box_st rfl (by simp [hedv.2]) rfl
  have gM1 : M1[m.length]? = some (wB w) := by rw [gr _ (by omega), g0]
  generalize fedS w l d = S at *
  simp -implicitDefEqProofs [-fcall_eq, X_impl_fed, g0, g1, hcl, hv, hst, hexit, hedv.1, hedv.2, gM1]
end Go.Ab
namespace Go.Ab
set_option maxHeartbeats 8000000
abbrev loV (hE eE : EdT) (ps : List EdT) (c : Nat) (t : Bool) (n : Int) : Value := lrV 0 false nilW (eV 0 hE) (slQ (eB' hE).length 0 ps.length c) (eV ((eB' hE).length + 1) eE) t n
abbrev loM (hE eE : EdT) (ps : List EdT) : Mem := eB' hE ++ (famB ((eB' hE).length + 1 + (eB' eE).length) 1 (ps.map elP) :: (eB' eE ++ famM eU8 (ps.map elP)))
theorem Sl.ed {m : Mem} {v : Value} {l : List Int} {ns : List Nat} (H : Sl m v l ns) : (v = nilW ∧ l = [] ∧ ns = []) ∨ ∃ e j c, v = slQ e 0 l.length c ∧ ns = [e] ∧ m[e]? = some (ownB eU8 (l ++ j)) := by
  cases H with
  | nil => exact .inl ⟨rfl, rfl, rfl⟩
  | own e c l j h1 h2 => exact .inr ⟨e, j, c, rfl, rfl, h1⟩
theorem FdO.ret {m : Mem} {K : Nat} {l : LnT} {ec : List Int} {rv ev hv : Value} {r : Nat} {ix ne nh : List Nat} {ps : List EdT} {c : Nat} (H : FdO m K l ec rv ev hv r ix ne nh ps c) (hl : l.rows.length < 1000000) (pv : List Value) : ∃ hE eE : EdT, oE hE = ec ∧ oE eE = l.cur ∧ ps.map oE = l.rows ∧ retK 0 m pv (lrV 0 false nilW hv rv ev l.t l.n) = some (loV hE eE ps c l.t l.n, loM hE eE ps) := by
  have hL := H.rs.len
  have hN := famN_P ps
  have hF := H.rs.fam
  have hx := hF.len
  have hnd := H.nod
  have hv' := H.rs.val
  have nmr : nmB ⟨famI ix (ps.map elP), 1, true, true⟩ = ix := hF.nmB
  subst hv'
  rcases H.es.ed with ⟨rfl, h2, rfl⟩ | ⟨e, j, ce, rfl, rfl, he⟩ <;> rcases H.hs.ed with ⟨rfl, h3, rfl⟩ | ⟨h, jh, ch, rfl, rfl, hh⟩
  · have hn : ([r] ++ ix).Nodup := by simpa using hnd
    refine ⟨none, none, h3.symm, h2.symm, H.rs.rows.symm, ?_⟩
    have h1 : reachF 4194304 m [r] [] = some (r :: ix) := by
      rw [reach_one hF.out (by simp) nmr, List.nil_append]
      exact hF.tail eU8 [r] (fun n hn' h => by simp at h; subst h; exact (List.nodup_cons.1 hn).1 hn') (by omega)
    have lo : locB (r :: ix) ⟨famI ix (ps.map elP), 1, true, true⟩ = some (famB 1 1 (ps.map elP)) := hF.locO eU8 (pre := [r]) hn
    have h2' : locM m (r :: ix) (r :: ix) = some (famB 1 1 (ps.map elP) :: famM eU8 (ps.map elP)) := by
      rw [loc_one hF.out lo, hF.locI]
      rfl
    exact ret_of h1 h2' (by simp) (by simp)
  · have hn : ([h, r] ++ ix).Nodup := by
      simp [List.nodup_cons, List.nodup_append] at hnd ⊢
      grind
    refine ⟨some (ec, jh, ch), none, rfl, h2.symm, H.rs.rows.symm, ?_⟩
    have h1 : reachF 4194304 m [h, r] [] = some (h :: r :: ix) := by
      rw [reach_one hh (by simp) (nmB_own eU8 _), List.append_nil, reach_one hF.out (by intro q; simp at q; subst q; simp at hn) nmr, List.nil_append]
      exact hF.tail eU8 [h, r] (fun n hn' q => by
        rw [List.nodup_append] at hn
        exact hn.2.2 n q n hn' rfl) (by omega)
    have lo : locB (h :: r :: ix) ⟨famI ix (ps.map elP), 1, true, true⟩ = some (famB 2 1 (ps.map elP)) := hF.locO eU8 (pre := [h, r]) hn
    have h2' : locM m (h :: r :: ix) (h :: r :: ix) = some (ownB eU8 (ec ++ jh) :: famB 2 1 (ps.map elP) :: famM eU8 (ps.map elP)) := by
      rw [loc_one hh (locB_own eU8 _ _), loc_one hF.out lo, hF.locI]
      rfl
    have hne : ¬ h = r := by intro q; subst q; simp at hn
    exact ret_of h1 h2' (by simp) (by simp [hne])
  · have hn : ([r, e] ++ ix).Nodup := by
      simp [List.nodup_cons, List.nodup_append] at hnd ⊢
      grind
    refine ⟨none, some (l.cur, j, ce), h3.symm, rfl, H.rs.rows.symm, ?_⟩
    have h1 : reachF 4194304 m [r, e] [] = some (r :: e :: ix) := by
      rw [reach_one hF.out (by simp) nmr, List.cons_append, List.nil_append, reach_one he (by intro q; simp at q; subst q; simp at hn) (nmB_own eU8 _), List.append_nil]
      exact hF.tail eU8 [r, e] (fun n hn' q => by
        rw [List.nodup_append] at hn
        exact hn.2.2 n q n hn' rfl) (by omega)
    have lo : locB (r :: e :: ix) ⟨famI ix (ps.map elP), 1, true, true⟩ = some (famB 2 1 (ps.map elP)) := hF.locO eU8 (pre := [r, e]) hn
    have h2' : locM m (r :: e :: ix) (r :: e :: ix) = some (famB 2 1 (ps.map elP) :: ownB eU8 (l.cur ++ j) :: famM eU8 (ps.map elP)) := by
      rw [loc_one hF.out lo, loc_one he (locB_own eU8 _ _), hF.locI]
      rfl
    have hne : ¬ r = e := by intro q; subst q; simp at hn
    exact ret_of h1 h2' (by simp) (by simp [hne])
  · have hn : ([h, r, e] ++ ix).Nodup := by
      simp [List.nodup_cons, List.nodup_append] at hnd ⊢
      grind
    refine ⟨some (ec, jh, ch), some (l.cur, j, ce), rfl, rfl, H.rs.rows.symm, ?_⟩
    have q1 : ¬ h = r := by intro q; subst q; simp at hn
    have q2 : ¬ h = e := by intro q; subst q; simp at hn
    have q3 : ¬ r = e := by intro q; subst q; simp at hn
    have h1 : reachF 4194304 m [h, r, e] [] = some (h :: r :: e :: ix) := by
      rw [reach_one hh (by simp) (nmB_own eU8 _), List.append_nil, reach_one hF.out (by simpa using fun q => q1 q.symm) nmr, List.cons_append, List.nil_append, reach_one he (by simpa using ⟨fun q => q2 q.symm, fun q => q3 q.symm⟩) (nmB_own eU8 _), List.append_nil]
      exact hF.tail eU8 [h, r, e] (fun n hn' q => by
        rw [List.nodup_append] at hn
        exact hn.2.2 n q n hn' rfl) (by omega)
    have lo : locB (h :: r :: e :: ix) ⟨famI ix (ps.map elP), 1, true, true⟩ = some (famB 3 1 (ps.map elP)) := hF.locO eU8 (pre := [h, r, e]) hn
    have h2' : locM m (h :: r :: e :: ix) (h :: r :: e :: ix) = some (ownB eU8 (ec ++ jh) :: famB 3 1 (ps.map elP) :: ownB eU8 (l.cur ++ j) :: famM eU8 (ps.map elP)) := by
      rw [loc_one hh (locB_own eU8 _ _), loc_one hF.out lo, loc_one he (locB_own eU8 _ _), hF.locI]
      rfl
    exact ret_of h1 h2' (by simp) (by simp [q1, q2, q3])
theorem lnOk_ask {w : WayT} {l : LnT} (hf : askF w l = 0) (hb : (∀ x ∈ l.rows, bOk x) ∧ bOk l.cur) : lnOk l := by
  have h := line_small40 hf
  have hn : inB l.n 0 999 = true := by
    cases hi : inB l.n 0 999 with
    | true => rfl
    | false =>
      exfalso
      unfold askF lineF at hf
      rw [hi] at hf
      by_cases hw : wayF w = 0
      · rw [if_pos hw, if_pos ⟨h.1, h.2⟩] at hf
        simp at hf
      · rw [if_neg hw] at hf
        exact hw hf
  simp [inB] at hn
  exact ⟨h.1, h.2, hn.1, hn.2, hb.1, hb.2⟩
end Go.Ab
