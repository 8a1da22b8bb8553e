/- What the functions of the program answer, for all arguments that the theorems name as conditions. -/
import Derived.Test.YtcfjcghbinnngaaS14Me
set_option linter.unusedVariables false
set_option linter.unusedSimpArgs false
namespace Go.Ab
set_option maxHeartbeats 4000000
theorem nod_mid {L X Y : List Nat} {N : Nat} (h : (L ++ (X ++ Y)).Nodup) (hl : ∀ n ∈ L, n < N) (hy : ∀ n ∈ Y, n < N) : (L ++ ([N] ++ Y)).Nodup := by
  rw [List.nodup_append] at h ⊢
  obtain ⟨h1, h2, h3⟩ := h
  rw [List.nodup_append] at h2
  refine ⟨h1, List.nodup_cons.2 ⟨fun h => by have := hy _ h; omega, h2.2.1⟩, fun a ha c hc => ?_⟩
  rcases List.mem_cons.1 hc with rfl | hc
  · have := hl a ha; omega
  · exact h3 a ha c (List.mem_append_right _ hc)
theorem nod_cut {L X Y : List Nat} (h : (L ++ (X ++ Y)).Nodup) : (L ++ Y).Nodup := h.sublist (by simp)
theorem push_ed {m : Mem} {b : Nat} {w : WayT} {l : LnT} {ec : List Int} {rv ev hv : Value} {r : Nat} {ix ne nh : List Nat} {ps : List EdT} {c : Nat} (H : FdS m b w l ec rv ev hv r ix ne nh ps c) {u : Value} {d : List Int} (hu : Bs m u d) (hd : d ≠ []) (hl : l.cur.length + d.length < 1000000000) : ∃ m1, apL m 1 1 ev u = some (slO m.length (l.cur.length + d.length), m1) ∧ m1[b]? = some (fdB w rv ev l.t l.n hv) ∧ FdS (m1.set b (fdB w rv (slO m.length (l.cur.length + d.length)) l.t l.n hv)) b w ⟨l.rows, l.cur ++ d, l.t, l.n⟩ ec rv (slO m.length (l.cur.length + d.length)) hv r ix [m.length] nh ps c ∧ Tr m (m1.set b (fdB w rv (slO m.length (l.cur.length + d.length)) l.t l.n hv)) (b :: r :: (ix ++ (ne ++ nh))) (b :: r :: (ix ++ ([m.length] ++ nh))) := by
  obtain ⟨m1, e1, s1, l1, f1, c1⟩ := H.es.app hu hd hl H.cl
  have hnd := H.nod
  have hlt := H.lt
  have hnd' : ((b :: r :: ix) ++ (ne ++ nh)).Nodup := hnd
  have out : ∀ n ∈ (b :: r :: ix) ++ nh, n ∉ ne := by
    intro n hn hm
    rw [List.nodup_append] at hnd'
    obtain ⟨q1, q2, q3⟩ := hnd'
    rw [List.nodup_append] at q2
    rcases List.mem_append.1 hn with h | h
    · exact q3 n h n (by simp [hm]) rfl
    · exact q2.2.2 n hm n h rfl
  have ag : ∀ n ∈ (b :: r :: ix) ++ nh, m1[n]? = m[n]? := fun n hn => f1 n (hlt n (by simp only [List.cons_append, List.mem_cons, List.mem_append] at hn ⊢; rcases hn with h | h | h | h <;> simp [h])) (out n hn)
  have hb1 : m1[b]? = some (fdB w rv ev l.t l.n hv) := by rw [ag b (by simp)]; exact H.box
  have hnew := rebox (w := w) (t := l.t) (n := l.n) hb1 (H.rs.agree fun n hn => ag n (by simp only [List.cons_append, List.mem_cons, List.mem_append] at hn ⊢; rcases hn with h | h <;> simp [h])) s1 (H.hs.agree fun n hn => ag n (by simp [hn])) (nod_mid hnd' (fun n hn => hlt n (by simp only [List.mem_cons, List.mem_append] at hn ⊢; rcases hn with h | h | h <;> simp [h])) (fun n hn => hlt n (by simp [hn]))) c1
  refine ⟨m1, e1, hb1, hnew, ⟨by rw [List.length_set]; omega, fun n h1 h2 => ?_, fun n h => ?_⟩⟩
  · rw [List.getElem?_set_ne (fun e => h2 (by rw [← e]; simp))]
    exact f1 n h1 (fun h => h2 (by simp [h]))
  · simp only [List.mem_cons, List.mem_append] at h ⊢
    rcases h with h | h | h | h | h
    · simp [h]
    · simp [h]
    · simp [h]
    · simp at h; omega
    · simp [h]
theorem Bs.new (m : Mem) (d : List Int) : Bs (m ++ [ownB eU8 d]) (slO m.length d.length) d := ⟨m.length, rfl, by simp⟩
theorem FdS.app {m : Mem} {b : Nat} {w : WayT} {l : LnT} {ec : List Int} {rv ev hv : Value} {r : Nat} {ix ne nh : List Nat} {ps : List EdT} {c : Nat} (H : FdS m b w l ec rv ev hv r ix ne nh ps c) (x : Blk) (hx : x.live = true → RNL inert (low (m.length + 1)) x.cells x.cells) : FdS (m ++ [x]) b w l ec rv ev hv r ix ne nh ps c := by
  have ag : ∀ n ∈ b :: r :: (ix ++ (ne ++ nh)), (m ++ [x])[n]? = m[n]? := fun n hn => List.getElem?_append_left (H.lt n hn)
  refine ⟨by rw [ag b (by simp)]; exact H.box, H.rs.agree fun n hn => ag n ?_, H.es.agree fun n hn => ag n ?_, H.hs.agree fun n hn => ag n ?_, H.nod, H.cl.app hx⟩
  · simp only [List.mem_cons, List.mem_append] at hn ⊢
    rcases hn with h | h <;> simp [h]
  · simp [hn]
  · simp [hn]
theorem d_take {m : Mem} {b : Nat} {w : WayT} {l : LnT} {ec : List Int} {ns : List Nat} (H : Fd m b w l ec ns) (y : Int) (hs : l.small) (h40 : l.rows.length ≤ 40) (hc : l.cur.length + 1 < 1000000000) (hl : ec.length + 2 < 1000000000) : ∃ m' ns', dcall X_impl_feeder_take [ptr b, .int .u8 y] m = some (.tuple #[], m') ∧ Fd m' b w (takeS w l y).1 (ec ++ (takeS w l y).2) ns' ∧ Tr m m' ns ns' := by
  have hb := H.lt b H.mem
  rw [dc2 H.cl hb (.inert _ rfl)]
  have hr := H.room 2 (by omega) (by omega) hs h40
  unfold takeS
  by_cases h : 40 < l.size + 2
  · have h' : decide ((l.size : Int) + 2 ≤ 40) = false := by simp; omega
    rw [h'] at hr
    rw [if_pos h]
    refine ⟨m, ns, ?_, by simpa using H, .refl _ _⟩
    simp -implicitDefEqProofs [-fcall_eq, X_impl_feeder_take, hr]
  · have h' : decide ((l.size : Int) + 2 ≤ 40) = true := by simp; omega
    rw [h'] at hr
    rw [if_neg h]
    obtain ⟨rv, ev, hv, r, ix, ne, nh, ps, c, rfl, H⟩ := H
    have hbox := H.box
    have H1 := H.app (ownB eU8 [y]) (fun _ => own_low _ _ _)
    obtain ⟨m1, e1, b1, F1, T1⟩ := push_ed H1 (Bs.new m [y]) (by simp) (by simpa using hc)
    obtain ⟨m2, ns2, e2, F2, T2⟩ := d_showByte ⟨_, _, _, _, _, _, _, _, _, rfl, F1⟩ y hl
    refine ⟨m2, ns2, ?_, F2, (T1.app).trans T2⟩
    have e1' : apL (m ++ [⟨[.int .u8 y], 1, true, true⟩]) 1 1 ev (slO m.length 1) = some (slO (m.length + 1) (l.cur.length + 1), m1) := by
      rw [List.length_append, List.length_singleton] at e1
      exact e1
    have e2' : dcall X_impl_feeder_showByte [ptr b, .int .u8 y] (m1.set b (fdB w rv (slO (m.length + 1) (l.cur.length + 1)) l.t l.n hv)) = some (.tuple #[], m2) := by
      rw [List.length_append, List.length_singleton] at e2
      exact e2
    simp -implicitDefEqProofs [-fcall_eq, X_impl_feeder_take, hr, hbox, e1', b1, e2']
end Go.Ab
namespace Go.Ab
set_option maxHeartbeats 4000000
theorem cont_and (x : Int) (h0 : 0 ≤ x) (h1 : x < 256) : (andI .u8 x 192 == 128) = cont x := by
  have : ∀ n : Fin 256, (andI .u8 (n.val : Int) 192 == 128) = cont (n.val : Int) := by decide +kernel
  have h := this ⟨x.toNat, by omega⟩
  have e : ((x.toNat : Nat) : Int) = x := by omega
  simpa only [e] using h
def ersN (w : WayT) : Nat → List Int
  | 0 => []
  | k + 1 => if hs w 2 && hs w 4 then [8, 32, 8] ++ ersN w k else []
theorem l_times {b : Nat} {w : WayT} {l : LnT} (k0 : Nat) (T : Nat) : ∀ (q : Nat) (m : Mem) (ec : List Int) (ns : List Nat), T < q → T < 1000 → Fd m b w l ec ns → ec.length + 3 * T < 1000000000 → ∃ m' ns', L_impl_feeder_dropChar k0 q 1 [ptr b, .int .i64 T] m = some (.tuple #[], m') ∧ Fd m' b w l (ec ++ ersN w T) ns' ∧ Tr m m' ns ns' := by
  induction T with
  | zero =>
    intro q m ec ns hq ht H hl
    obtain ⟨q, rfl⟩ : ∃ n, q = n + 1 := ⟨q - 1, by omega⟩
    have hh := f_has w 4 k4_ (by omega) m
    refine ⟨m, ns, ?_, by simpa [ersN] using H, .refl _ _⟩
    obtain ⟨rv, ev, hv, r, ix, ne, nh, ps, c, rfl, H⟩ := H
    have hbox := H.box
    cases h : hs w 4 <;> rw [h] at hh <;> simp -implicitDefEqProofs [-fcall_eq, L_impl_feeder_dropChar, hbox, hh]
  | succ T ih =>
    intro q m ec ns hq ht H hl
    obtain ⟨q, rfl⟩ : ∃ n, q = n + 1 := ⟨q - 1, by omega⟩
    have hh := f_has w 4 k4_ (by omega) m
    cases h : hs w 4
    · rw [h] at hh
      refine ⟨m, ns, ?_, by simpa [ersN, h] using H, .refl _ _⟩
      obtain ⟨rv, ev, hv, r, ix, ne, nh, ps, c, rfl, H⟩ := H
      have hbox := H.box
      simp -implicitDefEqProofs [-fcall_eq, L_impl_feeder_dropChar, hbox, hh]
    · rw [h] at hh
      have H1 := H.app (ownB eU8 [8, 32, 8]) (fun _ => own_low _ _ _)
      obtain ⟨m1, ns1, e1, F1, T1⟩ := d_show H1 (Bs.new m [8, 32, 8]) (by simp) (by simp; omega)
      obtain ⟨m2, ns2, e2, F2, T2⟩ := ih q m1 _ ns1 (by omega) (by omega) F1 (by split <;> (try simp) <;> omega)
      refine ⟨m2, ns2, ?_, ?_, T1.app.trans T2⟩
      · obtain ⟨rv, ev, hv, r, ix, ne, nh, ps, c, rfl, H⟩ := H
        have hbox := H.box
        have hw : IntKind.i64.wrap (((T : Int) + 1) - 1) = T := by
          rw [show ((T : Int) + 1) - 1 = T by omega]
          exact wrap_i64 (by omega) (by omega)
        have hw2 : IntKind.i64.wrap (T : Int) = T := wrap_i64 (by omega) (by omega)
        have e1' : dcall X_impl_feeder_show [ptr b, slO m.length 3] (m ++ [⟨[.int .u8 8, .int .u8 32, .int .u8 8], 1, true, true⟩]) = some (.tuple #[], m1) := e1
        have hp : (0 : Int) < (T : Int) + 1 := by omega
        simp -implicitDefEqProofs [-fcall_eq, L_impl_feeder_dropChar, hbox, hh, e1', hw, hw2, hp, e2]
      · cases h2 : hs w 2
        · rw [h2] at F2
          have : ersN w T = [] ∧ ersN w (T + 1) = [] := by
            constructor
            · cases T <;> simp [ersN, h2]
            · simp [ersN, h2]
          rw [this.1] at F2
          rw [this.2]
          simpa using F2
        · rw [h2] at F2
          rw [ersN, h, h2]
          simpa using F2
def drB (w : WayT) (g : Int) : List Int := ersN w (if hs w 16 && hid g then 2 else 1)
theorem drB_eq (w : WayT) (c : List Int) : drO w c = drB w (gt c (laE c)) := by
  unfold drO drB
  cases h2 : hs w 2 <;> cases h4 : hs w 4 <;> cases h : hs w 16 && hid (gt c (laE c)) <;> simp [ersN, h2, h4]
theorem shS_two (w : WayT) (g : Int) : ((shS w g).length == 2) = (hs w 16 && hid g) := by
  unfold shS
  cases h : hs w 16 && hid g <;> simp
theorem l_last {b : Nat} {w : WayT} {l : LnT} {m : Mem} {ec : List Int} {ns : List Nat} (k0 : Nat) (H : Fd m b w l ec ns) (hb : bOk l.cur) (hc : l.cur.length < 1000000000) (hl : ec.length + 6 < 1000000000) (n : Nat) : ∀ (q : Nat), n < l.cur.length → n + 10 < q → ∃ m' ns', L_impl_feeder_dropChar k0 q 0 [ptr b, .int .i64 n] m = some (.tuple #[], m') ∧ Fd m' b w ⟨l.rows, l.cur.take (laF l.cur n), l.t, l.n⟩ (ec ++ drB w (gt l.cur (laF l.cur n))) ns' ∧ Tr m m' ns ns' := by
  have tail : ∀ (n q : Nat), n < l.cur.length → 5 < q → (¬ 0 < n ∨ cont (gt l.cur n) = false) → ∃ m' ns', L_impl_feeder_dropChar k0 (q + 1) 0 [ptr b, .int .i64 n] m = some (.tuple #[], m') ∧ Fd m' b w ⟨l.rows, l.cur.take n, l.t, l.n⟩ (ec ++ drB w (gt l.cur n)) ns' ∧ Tr m m' ns ns' := by
    intro n q hn hq hex
    have hsh := f_shown w (gt l.cur n) m
    have h2 := shS_two w (gt l.cur n)
    have hg : 0 ≤ gt l.cur n ∧ gt l.cur n < 256 := hb _ (by
      have : gt l.cur n = l.cur[n] := by simp [gt, List.getElem?_eq_getElem hn]
      rw [this]
      exact List.getElem_mem hn)
    have hcn := cont_and _ hg.1 hg.2
    have H0 := H
    obtain ⟨rv, ev, hv, r, ix, ne, nh, ps, c, rfl, H⟩ := H
    have hbox := H.box
    obtain ⟨p, a1, a2⟩ := H.es.at n hn hc
    have H1 := H.app (ownB eU8 (shS w (gt l.cur n))) (fun _ => own_low _ _ _)
    obtain ⟨v', s1, s2⟩ := H1.es.cut n hn
    have hb1 := H1.box
    have hnew := rebox (w := w) (t := l.t) (n := l.n) hb1 H1.rs s2 H1.hs H1.nod H1.cl
    have T1 : Tr m ((m ++ [ownB eU8 (shS w (gt l.cur n))]).set b (fdB w rv v' l.t l.n hv)) (b :: r :: (ix ++ (ne ++ nh))) (b :: r :: (ix ++ (ne ++ nh))) := ⟨by simp, fun x h1 h2 => by rw [List.getElem?_set_ne (fun e => h2 (by rw [← e]; simp)), List.getElem?_append_left h1], fun x h => .inl h⟩
    have hcase : ∀ (T : Nat), (T = 1 ∨ T = 2) → (if hs w 16 && hid (gt l.cur n) then 2 else 1) = T → ∃ m' ns', L_impl_feeder_dropChar k0 q 1 [ptr b, .int .i64 T] ((m ++ [ownB eU8 (shS w (gt l.cur n))]).set b (fdB w rv v' l.t l.n hv)) = some (.tuple #[], m') ∧ Fd m' b w ⟨l.rows, l.cur.take n, l.t, l.n⟩ (ec ++ drB w (gt l.cur n)) ns' ∧ Tr m m' (b :: r :: (ix ++ (ne ++ nh))) ns' := by
      intro T hT e
      obtain ⟨m2, ns2, e2, F2, T2⟩ := l_times k0 T q _ ec _ (by omega) (by omega) ⟨rv, v', hv, r, ix, ne, nh, ps, c, rfl, hnew⟩ (by omega)
      refine ⟨m2, ns2, e2, ?_, T1.trans T2⟩
      unfold drB
      rw [e]
      exact F2
    have hcell := s2.val
    have hdec : ∀ z : Value, (some z : Option Value) = some z := fun _ => rfl
    generalize hS : shS w (gt l.cur n) = S at *
    cases ht : hs w 16 && hid (gt l.cur n)
    · rw [ht] at h2 hcase
      obtain ⟨m2, ns2, e2, F2, T2⟩ := hcase 1 (.inl rfl) rfl
      refine ⟨m2, ns2, ?_, F2, T2⟩
      have h2' : ¬ ((S.length : Int) = 2) := by
        intro e
        have : S.length = 2 := by omega
        simp [this] at h2
      have e2' : L_impl_feeder_dropChar k0 q 1 [ptr b, .int .i64 1] ((m ++ [ownB eU8 S]).set b (fdB w rv v' l.t l.n hv)) = some (.tuple #[], m2) := e2
      rcases hex with hex | hex
      · have hex' : ¬ ((0 : Int) < n) := by omega
        simp -implicitDefEqProofs [-fcall_eq, L_impl_feeder_dropChar, hbox, hex, hex', a1, a2, hsh, h2', hb1, s1, hcell.1, hcell.2, e2']
      · rw [hex] at hcn
        by_cases hp : 0 < n
        · simp at hcn
          simp -implicitDefEqProofs [-fcall_eq, L_impl_feeder_dropChar, hbox, hp, a1, a2, hsh, h2', hb1, s1, hcell.1, hcell.2, e2', hcn]
        · simp -implicitDefEqProofs [-fcall_eq, L_impl_feeder_dropChar, hbox, hp, a1, a2, hsh, h2', hb1, s1, hcell.1, hcell.2, e2']
    · rw [ht] at h2 hcase
      obtain ⟨m2, ns2, e2, F2, T2⟩ := hcase 2 (.inr rfl) rfl
      refine ⟨m2, ns2, ?_, F2, T2⟩
      have h2' : ((S.length : Int) = 2) := by
        have : S.length = 2 := by simpa using h2
        omega
      have e2' : L_impl_feeder_dropChar k0 q 1 [ptr b, .int .i64 2] ((m ++ [ownB eU8 S]).set b (fdB w rv v' l.t l.n hv)) = some (.tuple #[], m2) := e2
      rcases hex with hex | hex
      · have hex' : ¬ ((0 : Int) < n) := by omega
        simp -implicitDefEqProofs [-fcall_eq, L_impl_feeder_dropChar, hbox, hex, hex', a1, a2, hsh, h2', hb1, s1, hcell.1, hcell.2, e2']
      · rw [hex] at hcn
        by_cases hp : 0 < n
        · simp at hcn
          simp -implicitDefEqProofs [-fcall_eq, L_impl_feeder_dropChar, hbox, hp, a1, a2, hsh, h2', hb1, s1, hcell.1, hcell.2, e2', hcn]
        · simp -implicitDefEqProofs [-fcall_eq, L_impl_feeder_dropChar, hbox, hp, a1, a2, hsh, h2', hb1, s1, hcell.1, hcell.2, e2']
  induction n with
  | zero =>
    intro q hn hq
    obtain ⟨q, rfl⟩ : ∃ n, q = n + 1 := ⟨q - 1, by omega⟩
    rw [laF]
    exact tail 0 q hn (by omega) (.inl (by omega))
  | succ n ih =>
    intro q hn hq
    obtain ⟨q, rfl⟩ : ∃ n, q = n + 1 := ⟨q - 1, by omega⟩
    rw [laF]
    cases hct : cont (gt l.cur (n + 1))
    · rw [if_neg (by simp)]
      exact tail (n + 1) q hn (by omega) (.inr hct)
    · rw [if_pos rfl]
      obtain ⟨m', ns', e, F, T⟩ := ih q (by omega) (by omega)
      refine ⟨m', ns', ?_, F, T⟩
      have hg : 0 ≤ gt l.cur (n + 1) ∧ gt l.cur (n + 1) < 256 := hb _ (by
        have : gt l.cur (n + 1) = l.cur[n + 1] := by simp [gt, List.getElem?_eq_getElem hn]
        rw [this]
        exact List.getElem_mem hn)
      have hcn := cont_and _ hg.1 hg.2
      rw [hct] at hcn
      simp at hcn
      obtain ⟨rv, ev, hv, r, ix, ne, nh, ps, c, rfl, H⟩ := H
      have hbox := H.box
      obtain ⟨p, a1, a2⟩ := H.es.at (n + 1) hn hc
      have a1' : ixaX 1 ev (.int .i64 ((n : Int) + 1)) = some p := a1
      have hp : (0 : Int) < (n : Int) + 1 := by omega
      have hw : IntKind.i64.wrap ((n : Int) + 1 - 1) = n := by
        rw [show (n : Int) + 1 - 1 = n by omega]
        exact wrap_i64 (by omega) (by omega)
      have hw2 : IntKind.i64.wrap (n : Int) = n := wrap_i64 (by omega) (by omega)
      simp -implicitDefEqProofs [-fcall_eq, L_impl_feeder_dropChar, hbox, hp, a1', a2, hcn, hw, hw2, e]
theorem d_dropChar {m : Mem} {b : Nat} {w : WayT} {l : LnT} {ec : List Int} {ns : List Nat} (H : Fd m b w l ec ns) (hb : bOk l.cur) (h0 : l.cur ≠ []) (hc : l.cur.length < 1000000000) (hl : ec.length + 6 < 1000000000) : ∃ m' ns', dcall X_impl_feeder_dropChar [ptr b] m = some (.tuple #[], m') ∧ Fd m' b w ⟨l.rows, l.cur.take (laE l.cur), l.t, l.n⟩ (ec ++ drO w l.cur) ns' ∧ Tr m m' ns ns' := by
  rw [dc1 H.cl (H.lt b H.mem), drB_eq]
  have hp := List.length_pos_iff.2 h0
  obtain ⟨m', ns', e, F, T⟩ := l_last m.length H hb hc hl (l.cur.length - 1) QQ (by omega) (by unfold QQ; omega)
  refine ⟨m', ns', ?_, F, T⟩
  have hw : IntKind.i64.wrap ((l.cur.length : Int) - 1) = ((l.cur.length - 1 : Nat) : Int) := by
    rw [show (l.cur.length : Int) - 1 = ((l.cur.length - 1 : Nat) : Int) by omega]
    exact wrap_i64 (by omega) (by omega)
  obtain ⟨rv, ev, hv, r, ix, ne, nh, ps, c, rfl, H⟩ := H
  have hbox := H.box
  have hlen := H.es.len
  simp -implicitDefEqProofs [-fcall_eq, X_impl_feeder_dropChar, hbox, hlen, hw, e]
end Go.Ab
namespace Go.Ab
set_option maxHeartbeats 4000000
theorem l_drop {b : Nat} {w : WayT} {p : Int → Bool} {fv : Value} (k0 : Nat) (hp : ∀ (x : Int) (m : Mem), callV cf_impl_feeder_drop fv [.int .u8 x] m = some (.bool (p x), m)) (N : Nat) : ∀ (q : Nat) (m : Mem) (l : LnT) (ec : List Int) (ns : List Nat), l.cur.length ≤ N → N < q → N < 1000000 → bOk l.cur → Fd m b w l ec ns → ec.length + 6 * N + 6 < 1000000000 → ∃ m' ns', L_impl_feeder_drop k0 q 0 [ptr b, fv, .int .i64 l.cur.length] m = some (.tuple #[], m') ∧ Fd m' b w ⟨l.rows, (dwS w p N l.cur).1, l.t, l.n⟩ (ec ++ (dwS w p N l.cur).2) ns' ∧ Tr m m' ns ns' := by
  induction N with
  | zero =>
    intro q m l ec ns hl hq hN hb H he
    obtain ⟨q, rfl⟩ : ∃ n, q = n + 1 := ⟨q - 1, by omega⟩
    have h0 : l.cur = [] := List.eq_nil_of_length_eq_zero (by omega)
    refine ⟨m, ns, ?_, by simpa [dwS] using H, .refl _ _⟩
    simp -implicitDefEqProofs [-fcall_eq, L_impl_feeder_drop, h0]
  | succ N ih =>
    intro q m l ec ns hl hq hN hb H he
    obtain ⟨q, rfl⟩ : ∃ n, q = n + 1 := ⟨q - 1, by omega⟩
    by_cases h0 : l.cur = []
    · rw [dwS_stop w p (N + 1) l.cur (fun h => h.1 h0)]
      refine ⟨m, ns, ?_, by simpa using H, .refl _ _⟩
      simp -implicitDefEqProofs [-fcall_eq, L_impl_feeder_drop, h0]
    · have hlp := List.length_pos_iff.2 h0
      have hw : IntKind.i64.wrap ((l.cur.length : Int) - 1) = ((l.cur.length - 1 : Nat) : Int) := by
        rw [show (l.cur.length : Int) - 1 = ((l.cur.length - 1 : Nat) : Int) by omega]
        exact wrap_i64 (by omega) (by omega)
      have hp1 : (0 : Int) < l.cur.length := by omega
      have hpx := hp (gt l.cur (l.cur.length - 1)) m
      cases hpp : p (gt l.cur (l.cur.length - 1))
      · rw [hpp] at hpx
        rw [dwS_stop w p (N + 1) l.cur (fun h => by rw [hpp] at h; cases h.2)]
        refine ⟨m, ns, ?_, by simpa using H, .refl _ _⟩
        obtain ⟨rv, ev, hv, r, ix, ne, nh, ps, c, rfl, H⟩ := H
        have hbox := H.box
        obtain ⟨a, a1, a2⟩ := H.es.at (l.cur.length - 1) (by omega) (by omega)
        simp -implicitDefEqProofs [-fcall_eq, L_impl_feeder_drop, hbox, hlp, hp1, hw, a1, a2, hpx]
      · rw [hpp] at hpx
        have hdw : dwS w p (N + 1) l.cur = ((dwS w p N (l.cur.take (laE l.cur))).1, drO w l.cur ++ (dwS w p N (l.cur.take (laE l.cur))).2) := by rw [dwS, if_pos ⟨h0, hpp⟩]
        have hd6 := drO_len w l.cur
        obtain ⟨m1, ns1, e1, F1, T1⟩ := d_dropChar H hb h0 (by omega) (by omega)
        have hla := laE_lt h0
        have hlen : (l.cur.take (laE l.cur)).length = laE l.cur := by simp; omega
        obtain ⟨m2, ns2, e2, F2, T2⟩ := ih q m1 ⟨l.rows, l.cur.take (laE l.cur), l.t, l.n⟩ _ ns1 (by show (l.cur.take (laE l.cur)).length ≤ N; omega) (by omega) (by omega) (bOk_take hb _) F1 (by simp; omega)
        refine ⟨m2, ns2, ?_, ?_, T1.trans T2⟩
        · obtain ⟨rv, ev, hv, r, ix, ne, nh, ps, c, rfl, H⟩ := H
          obtain ⟨rv', ev', hv', r', ix', ne', nh', ps', c', rfl, F1⟩ := F1
          have hbox := H.box
          have hbox1 := F1.box
          have hl1 := F1.es.len
          obtain ⟨a, a1, a2⟩ := H.es.at (l.cur.length - 1) (by omega) (by omega)
          simp only at hl1 e2 hbox1
          generalize (l.cur.take (laE l.cur)).length = Q at *
          simp -implicitDefEqProofs [-fcall_eq, L_impl_feeder_drop, hbox, hlp, hp1, hw, a1, a2, hpx, e1, hbox1, hl1, e2]
        · rw [hdw]
          simpa using F2
theorem func_low (N : Nat) (f : FuncId) : RN inert (low N) (.func (.func f) #[] #[]) (.func (.func f) #[] #[]) := .func _ _ _ _ _ rfl (fun i x y h => by simp at h) rfl (fun i x y h => by simp at h)
theorem d_drop {m : Mem} {b : Nat} {w : WayT} {l : LnT} {ec : List Int} {ns : List Nat} {p : Int → Bool} {f : FuncId} (H : Fd m b w l ec ns) (hp : ∀ (x : Int) (m : Mem), callV cf_impl_feeder_drop (.func (.func f) #[] #[]) [.int .u8 x] m = some (.bool (p x), m)) (N : Nat) (hl : l.cur.length ≤ N) (hN : N < 1000000) (hb : bOk l.cur) (he : ec.length + 6 * N + 6 < 1000000000) : ∃ m' ns', dcall X_impl_feeder_drop [ptr b, .func (.func f) #[] #[]] m = some (.tuple #[], m') ∧ Fd m' b w ⟨l.rows, (dwS w p N l.cur).1, l.t, l.n⟩ (ec ++ (dwS w p N l.cur).2) ns' ∧ Tr m m' ns ns' := by
  rw [dc2 H.cl (H.lt b H.mem) (func_low _ _)]
  obtain ⟨m', ns', e, F, T⟩ := l_drop m.length hp N QQ m l ec ns hl (by unfold QQ; omega) hN hb H he
  refine ⟨m', ns', ?_, F, T⟩
  obtain ⟨rv, ev, hv, r, ix, ne, nh, ps, c, rfl, H⟩ := H
  have hbox := H.box
  have hlen := H.es.len
  simp -implicitDefEqProofs [-fcall_eq, X_impl_feeder_drop, hbox, hlen, e]
theorem w_1 (x : Int) (m : Mem) : callV cf_impl_feeder_drop (.func (.func 76) #[] #[]) [.int .u8 x] m = some (.bool (decide (x = 32)), m) := by
  have c : X_impl_feeder_erase_1 [.int .u8 x] [] = some (.bool (decide (x = 32)), []) := by simp -implicitDefEqProofs [X_impl_feeder_erase_1, retK_eq]; rfl
  simp [cf_impl_feeder_drop, c]
theorem w_2 (x : Int) (m : Mem) : callV cf_impl_feeder_drop (.func (.func 77) #[] #[]) [.int .u8 x] m = some (.bool (decide (¬ x = 32)), m) := by
  have c : X_impl_feeder_erase_2 [.int .u8 x] [] = some (.bool (decide (¬ x = 32)), []) := by
    by_cases h : x = 32 <;> simp -implicitDefEqProofs [X_impl_feeder_erase_2, retK_eq, h]
  simp [cf_impl_feeder_drop, c]
theorem w_3 (x : Int) (m : Mem) : callV cf_impl_feeder_drop (.func (.func 78) #[] #[]) [.int .u8 x] m = some (.bool ((fun _ => true) x), m) := by
  have c : X_impl_feeder_erase_3 [.int .u8 x] [] = some (.bool true, []) := by simp -implicitDefEqProofs [X_impl_feeder_erase_3, retK_eq]
  simp [cf_impl_feeder_drop, c]
end Go.Ab
namespace Go.Ab
set_option maxHeartbeats 4000000
theorem drO_no4 {w : WayT} (h : hs w 4 = false) (c : List Int) : drO w c = [] := by simp [drO, h]
theorem dwS_no4 {w : WayT} (h : hs w 4 = false) (p : Int → Bool) : ∀ (n : Nat) (c : List Int), (dwS w p n c).2 = []
  | 0, c => rfl
  | n + 1, c => by
    rw [dwS]
    split
    · rw [drO_no4 h, dwS_no4 h p n]; rfl
    · rfl
theorem Fd.box {m : Mem} {b : Nat} {w : WayT} {l : LnT} {ec : List Int} {ns : List Nat} (H : Fd m b w l ec ns) : ∃ rv ev hv, m[b]? = some (fdB w rv ev l.t l.n hv) ∧ lenX ev = some (.int .i64 l.cur.length) := by
  obtain ⟨rv, ev, hv, r, ix, ne, nh, ps, c, rfl, H⟩ := H
  exact ⟨rv, ev, hv, H.box, H.es.len⟩
theorem er_tail {m : Mem} {b : Nat} {w : WayT} {l : LnT} {ec : List Int} {ns : List Nat} (H : Fd m b w l ec ns) (y : Int) (hl : ec.length + 6 < 1000000000) : ∃ m2 ns2 m3 ns3, dcall X_impl_feeder_showByte [ptr b, .int .u8 y] m = some (.tuple #[], m2) ∧ Fd m2 b w l (ec ++ ecS w y) ns2 ∧ Tr m m2 ns ns2 ∧ dcall X_impl_feeder_show [ptr b, slO m2.length 1] (m2 ++ [⟨[.int .u8 10], 1, true, true⟩]) = some (.tuple #[], m3) ∧ Fd m3 b w l (if hs w 2 then ec ++ ecS w y ++ [10] else ec ++ ecS w y) ns3 ∧ Tr m m3 ns ns3 := by
  obtain ⟨m2, ns2, e2, F2, T2⟩ := d_showByte H y (by omega)
  have := ecS_len w y
  obtain ⟨m3, ns3, e3, F3, T3⟩ := d_show (F2.app (ownB eU8 [10]) (fun _ => own_low _ _ _)) (Bs.new m2 [10]) (by simp) (by simp; omega)
  exact ⟨m2, ns2, m3, ns3, e2, F2, T2, e3, F3, T2.trans T3.app⟩
theorem gn_end {w : WayT} {y : Int} {o ec : List Int} (h4 : hs w 4 = false → o = []) (k : Bool) : ec ++ gnO w y o k = (if hs w 4 then ec ++ o else if k && hs w 8 then (if hs w 2 then ec ++ o ++ ecS w y ++ [10] else ec ++ o ++ ecS w y) else ec ++ o ++ ecS w y) := by
  unfold gnO
  cases h : hs w 4
  · rw [h4 h]
    cases k <;> cases hs w 8 <;> cases hs w 2 <;> simp
  · simp
theorem d_erase {m : Mem} {b : Nat} {w : WayT} {l : LnT} {ec : List Int} {ns : List Nat} (H : Fd m b w l ec ns) (y : Int) (y0 : 0 ≤ y) (y1 : y < 256) (hb : bOk l.cur) (hN : l.cur.length < 1000000) (he : ec.length + 12 * l.cur.length + 20 < 1000000000) : ∃ m' ns' l' ec', dcall X_impl_feeder_erase [ptr b, .int .u8 y] m = some (.bool (isS w.b y || (isS w.d y || isS w.c y)), m') ∧ Fd m' b w l' ec' ns' ∧ Tr m m' ns ns' ∧ (l', ec') = if isS w.b y || (isS w.d y || isS w.c y) then (⟨l.rows, (goneS w l.cur y).1, l.t, l.n⟩, ec ++ (goneS w l.cur y).2) else (l, ec) := by
  rw [dc2 H.cl (H.lt b H.mem) (.inert _ rfl)]
  have i2 := f_isP w.c y y0 y1
  have i1 := f_isP w.b y y0 y1
  have i3 := f_isP w.d y y0 y1
  have k4 := f_has w 4 k4_ (by omega)
  have k8 := f_has w 8 k8_ (by omega)
  obtain ⟨rv, ev, hv, hbox, hlen⟩ := H.box
  unfold goneS
  have fin : ∀ (k : Bool) (m1 : Mem) (ns1 : List Nat) (cur1 o : List Int), Fd m1 b w ⟨l.rows, cur1, l.t, l.n⟩ (ec ++ o) ns1 → Tr m m1 ns ns1 → (hs w 4 = false → o = []) → o.length ≤ 12 * l.cur.length + 6 → ∃ m' ns', Fd m' b w ⟨l.rows, cur1, l.t, l.n⟩ (ec ++ gnO w y o k) ns' ∧ Tr m m' ns ns' ∧ ∃ rv1 ev1 hv1, m1[b]? = some (fdB w rv1 ev1 l.t l.n hv1) ∧ lenX ev1 = some (.int .i64 cur1.length) ∧ ∃ m2 rv2 ev2 hv2, dcall X_impl_feeder_showByte [ptr b, .int .u8 y] m1 = some (.tuple #[], m2) ∧ m2[b]? = some (fdB w rv2 ev2 l.t l.n hv2) ∧ ∃ m3, dcall X_impl_feeder_show [ptr b, slO m2.length 1] (m2 ++ [⟨[.int .u8 10], 1, true, true⟩]) = some (.tuple #[], m3) ∧ m' = if hs w 4 then m1 else if k && hs w 8 then m3 else m2 := by
    intro k m1 ns1 cur1 o F1 T1 h4 ho
    obtain ⟨rv1, ev1, hv1, b1, l1⟩ := F1.box
    obtain ⟨m2, ns2, m3, ns3, e2, F2, T2, e3, F3, T3⟩ := er_tail F1 y (by simp; omega)
    obtain ⟨rv2, ev2, hv2, b2, l2⟩ := F2.box
    cases h : hs w 4
    · cases h8 : k && hs w 8
      · refine ⟨m2, ns2, ?_, T1.trans T2, rv1, ev1, hv1, b1, l1, m2, rv2, ev2, hv2, e2, b2, m3, e3, by simp⟩
        rw [gn_end h4, h, h8]
        simpa using F2
      · refine ⟨m3, ns3, ?_, T1.trans T3, rv1, ev1, hv1, b1, l1, m2, rv2, ev2, hv2, e2, b2, m3, e3, by simp⟩
        rw [gn_end h4, h, h8]
        simpa using F3
    · refine ⟨m1, ns1, ?_, T1, rv1, ev1, hv1, b1, l1, m2, rv2, ev2, hv2, e2, b2, m3, e3, by simp⟩
      rw [gn_end h4, h]
      simpa using F1
  cases c1 : isS w.b y
  · cases c2 : isS w.d y
    · cases c3 : isS w.c y
      · -- not one of these
        rw [c1] at i1
        rw [c2] at i3
        rw [c3] at i2
        refine ⟨m, ns, l, ec, ?_, H, .refl _ _, by simp⟩
        simp -implicitDefEqProofs [-fcall_eq, X_impl_feeder_erase, hbox, i1, i2, i3]
      · -- all
        rw [c1] at i1
        rw [c2] at i3
        rw [c3] at i2
        obtain ⟨m1, ns1, e1, F1, T1⟩ := d_drop H w_3 l.cur.length (Nat.le_refl _) hN hb (by omega)
        have hdl := dwS_len w (fun _ => true) l.cur.length l.cur
        obtain ⟨m', ns', F, T, rv1, ev1, hv1, b1, l1, m2, rv2, ev2, hv2, e2, b2, m3, e3, hm⟩ := fin true m1 ns1 _ _ F1 T1 (fun h => dwS_no4 h _ _ _) (by omega)
        refine ⟨m', ns', _, _, ?_, F, T, by simp⟩
        subst hm
        cases h4 : hs w 4
        · have k4 := k4
          rw [h4] at k4
          cases h8 : hs w 8 <;> rw [h8] at k8 <;> simp -implicitDefEqProofs [-fcall_eq, X_impl_feeder_erase, hbox, i1, i2, i3, e1, b1, k4, e2, b2, k8, e3]
        · rw [h4] at k4
          simp -implicitDefEqProofs [-fcall_eq, X_impl_feeder_erase, hbox, i1, i2, i3, e1, b1, k4]
    · -- a word
      rw [c1] at i1
      rw [c2] at i3
      obtain ⟨m1, ns1, e1, F1, T1⟩ := d_drop H w_1 l.cur.length (Nat.le_refl _) hN hb (by omega)
      have hd1 := dwS_len w (fun b => decide (b = 32)) l.cur.length l.cur
      have hbk : bOk (dwS w (fun b => decide (b = 32)) l.cur.length l.cur).1 := by
        have : ∀ (p : Int → Bool) (n : Nat) (c : List Int), bOk c → bOk (dwS w p n c).1 := by
          intro p n
          induction n with
          | zero => intro c h; exact h
          | succ n ih =>
            intro c h
            rw [dwS]
            split
            · exact ih _ (bOk_take h _)
            · exact h
        exact this _ _ _ hb
      obtain ⟨m1b, ns1b, e1b, F1b, T1b⟩ := d_drop F1 w_2 l.cur.length hd1.1 hN hbk (by simp; omega)
      have hd2 := dwS_len w (fun b => decide (¬ b = 32)) l.cur.length (dwS w (fun b => decide (b = 32)) l.cur.length l.cur).1
      have F1c : Fd m1b b w ⟨l.rows, (wordS w l.cur).1, l.t, l.n⟩ (ec ++ (wordS w l.cur).2) ns1b := by
        rw [List.append_assoc] at F1b
        exact F1b
      have hwl : (wordS w l.cur).2.length ≤ 12 * l.cur.length + 6 := by
        show ((dwS w (fun b => decide (b = 32)) l.cur.length l.cur).2 ++ (dwS w (fun b => decide (¬ b = 32)) l.cur.length (dwS w (fun b => decide (b = 32)) l.cur.length l.cur).1).2).length ≤ _
        simp only [List.length_append]
        omega
      obtain ⟨m', ns', F, T, rv1, ev1, hv1, b1, l1, m2, rv2, ev2, hv2, e2, b2, m3, e3, hm⟩ := fin false m1b ns1b _ _ F1c (T1.trans T1b) (fun h => by unfold wordS; simp only; rw [dwS_no4 h, dwS_no4 h]; rfl) hwl
      refine ⟨m', ns', _, _, ?_, F, T, by simp⟩
      subst hm
      cases h4 : hs w 4
      · rw [h4] at k4
        simp -implicitDefEqProofs [-fcall_eq, X_impl_feeder_erase, hbox, i1, i2, i3, e1, e1b, b1, k4, e2, b2]
      · rw [h4] at k4
        simp -implicitDefEqProofs [-fcall_eq, X_impl_feeder_erase, hbox, i1, i2, i3, e1, e1b, b1, k4]
  · rw [c1] at i1
    by_cases h0 : l.cur = []
    · have F1 : Fd m b w ⟨l.rows, l.cur, l.t, l.n⟩ (ec ++ []) ns := by simpa using H
      obtain ⟨m', ns', F, T, rv1, ev1, hv1, b1, l1, m2, rv2, ev2, hv2, e2, b2, m3, e3, hm⟩ := fin false m ns _ _ F1 (.refl _ _) (fun _ => rfl) (by simp)
      refine ⟨m', ns', _, _, ?_, F, T, by simp [h0]⟩
      subst hm
      rw [h0] at l1 hlen
      rw [hbox] at b1
      cases b1
      cases h4 : hs w 4
      · rw [h4] at k4
        simp -implicitDefEqProofs [-fcall_eq, X_impl_feeder_erase, hbox, i1, i2, i3, hlen, k4, e2, b2]
      · rw [h4] at k4
        simp -implicitDefEqProofs [-fcall_eq, X_impl_feeder_erase, hbox, i1, i2, i3, hlen, k4]
    · have hp := List.length_pos_iff.2 h0
      obtain ⟨m1, ns1, e1, F1, T1⟩ := d_dropChar H hb h0 (by omega) (by omega)
      have hd6 := drO_len w l.cur
      obtain ⟨m', ns', F, T, rv1, ev1, hv1, b1, l1, m2, rv2, ev2, hv2, e2, b2, m3, e3, hm⟩ := fin false m1 ns1 _ _ F1 T1 (fun h => drO_no4 h _) (by omega)
      refine ⟨m', ns', _, _, ?_, F, T, by simp [h0]⟩
      subst hm
      have hp' : (0 : Int) < l.cur.length := by omega
      cases h4 : hs w 4
      · rw [h4] at k4
        simp -implicitDefEqProofs [-fcall_eq, X_impl_feeder_erase, hbox, i1, i2, i3, hlen, hp, hp', e1, b1, k4, e2, b2]
      · rw [h4] at k4
        simp -implicitDefEqProofs [-fcall_eq, X_impl_feeder_erase, hbox, i1, i2, i3, hlen, hp, hp', e1, b1, k4]
end Go.Ab
namespace Go.Ab
set_option maxHeartbeats 4000000
theorem push_rd {m : Mem} {b : Nat} {w : WayT} {l : LnT} {ec : List Int} {rv ev hv pv : Value} {r : Nat} {ix ne nh np : List Nat} {ps : List EdT} {c : Nat} {x : List Int} (H : FdS m b w l ec rv ev hv r ix ne nh ps c) (hp : Sl m pv x np) (hn : (r :: (ix ++ np)).Nodup) (hl : l.rows.length < 1000000) : ∃ m1 E, apL (m ++ [⟨[pv], 1, true, true⟩]) 1 24 rv (slQ m.length 0 1 1) = some (slO (m.length + 1) (l.rows.length + 1), m1) ∧ Rs m1 (slO (m.length + 1) (l.rows.length + 1)) (l.rows ++ [x]) (m.length + 1) (ix ++ np) (ps ++ [E]) (l.rows.length + 1) ∧ m1.length = m.length + 2 ∧ (∀ n, n < m.length → n ≠ r → m1[n]? = m[n]?) ∧ Closed m1 := by
  have hlow : RNL inert (low (m.length + 1)) [pv] [pv] := .cons (hp.low fun n h => Nat.lt_succ_of_lt (hp.lt n h)) .nil
  have ag : ∀ n, n < m.length → (m ++ [(⟨[pv], 1, true, true⟩ : Blk)])[n]? = m[n]? := fun n hn => List.getElem?_append_left hn
  have hr := H.rs.agree (m' := m ++ [⟨[pv], 1, true, true⟩]) fun n hn => ag n (H.lt n (by simp only [List.mem_cons, List.mem_append] at hn ⊢; rcases hn with h | h <;> simp [h]))
  have hp' := hp.agree (m' := m ++ [⟨[pv], 1, true, true⟩]) fun n hn => ag n (hp.lt n hn)
  obtain ⟨m1, E, e1, r1, e2, l1, f1, c1⟩ := hr.app hp' (k := m.length) (by simp) hn hl (H.cl.app fun _ => hlow)
  rw [List.length_append, List.length_singleton] at e1 r1 l1
  refine ⟨m1, E, e1, r1, l1, fun n h1 h2 => ?_, c1⟩
  rw [f1 n (by simp; omega) h2, ag n h1]
theorem d_end {m : Mem} {b : Nat} {w : WayT} {l : LnT} {ec : List Int} {ns : List Nat} (H : Fd m b w l ec ns) (hl : l.rows.length < 1000000) : ∃ m' ns', dcall X_impl_feeder_end [ptr b] m = some (.tuple #[], m') ∧ Fd m' b w ⟨l.rows ++ [l.cur], [], l.t, l.n⟩ ec ns' ∧ Tr m m' ns ns' := by
  rw [dc1 H.cl (H.lt b H.mem)]
  obtain ⟨rv, ev, hv, r, ix, ne, nh, ps, c, rfl, H⟩ := H
  have hnd := H.nod
  have hlt := H.lt
  have hbox := H.box
  have hval := H.es.val
  obtain ⟨m1, E, e1, r1, l1, f1, c1⟩ := push_rd H H.es (hnd.sublist (by simp)) hl
  have hbr : b ≠ r := fun e => by subst e; simp at hnd
  have ag : ∀ n ∈ b :: nh, m1[n]? = m[n]? := fun n hn => f1 n (hlt n (by simp only [List.mem_cons, List.mem_append] at hn ⊢; rcases hn with h | h <;> simp [h])) (fun e => by
    subst e
    rcases List.mem_cons.1 hn with h | h
    · exact hbr h.symm
    · simp [h] at hnd)
  have hb1 : m1[b]? = some (fdB w rv ev l.t l.n hv) := by rw [ag b (by simp)]; exact hbox
  have hnd2 : (b :: (m.length + 1) :: ((ix ++ ne) ++ ([] ++ nh))).Nodup := by
    have q : (b :: (ix ++ (ne ++ nh))).Nodup := hnd.sublist (by simp)
    have q' : (b :: ((ix ++ ne) ++ ([] ++ nh))).Nodup := by simpa using q
    obtain ⟨q1, q2⟩ := List.nodup_cons.1 q'
    refine List.nodup_cons.2 ⟨fun h => ?_, List.nodup_cons.2 ⟨fun h => ?_, q2⟩⟩
    · rcases List.mem_cons.1 h with h | h
      · have := hlt b (by simp); omega
      · exact q1 h
    · have := hlt (m.length + 1) (by simp only [List.nil_append, List.mem_cons, List.mem_append] at h ⊢; rcases h with (h | h) | h <;> simp [h])
      omega
  have hnew := rebox (w := w) (t := l.t) (n := l.n) hb1 r1 .nil (H.hs.agree fun n hn => ag n (by simp [hn])) hnd2 c1
  refine ⟨_, _, ?_, ⟨_, _, _, _, _, _, _, _, _, rfl, hnew⟩, ?_⟩
  · have hset : ∀ x : Blk, (m1.set b x)[b]? = some x := fun x => List.getElem?_set_self (List.getElem?_eq_some_iff.1 hb1).1
    simp -implicitDefEqProofs [X_impl_feeder_end, hbox, hval.1, hval.2, e1, hb1, hset]
  · refine ⟨by rw [List.length_set]; omega, fun n h1 h2 => ?_, fun n h => ?_⟩
    · rw [List.getElem?_set_ne (fun e => h2 (by rw [← e]; simp))]
      exact f1 n h1 (fun h => h2 (by simp [h]))
    · simp only [List.nil_append, List.mem_cons, List.mem_append] at h ⊢
      rcases h with h | h | (h | h) | h
      · simp [h]
      · omega
      · simp [h]
      · simp [h]
      · simp [h]
theorem push_one {m : Mem} {b : Nat} {w : WayT} {l : LnT} {ec : List Int} {rv ev hv : Value} {r : Nat} {ix ne nh : List Nat} {ps : List EdT} {c : Nat} (H : FdS m b w l ec rv ev hv r ix ne nh ps c) (y : Int) (hl : l.rows.length < 1000000) : ∃ m1 ns', apL (m ++ [⟨[.int .u8 y], 1, true, true⟩, ⟨[slO m.length 1], 1, true, true⟩]) 1 24 rv (slO (m.length + 1) 1) = some (slO (m.length + 2) (l.rows.length + 1), m1) ∧ m1[b]? = some (fdB w rv ev l.t l.n hv) ∧ Fd (m1.set b (fdB w (slO (m.length + 2) (l.rows.length + 1)) ev l.t l.n hv)) b w ⟨l.rows ++ [[y]], l.cur, l.t, l.n⟩ ec ns' ∧ Tr m (m1.set b (fdB w (slO (m.length + 2) (l.rows.length + 1)) ev l.t l.n hv)) (b :: r :: (ix ++ (ne ++ nh))) ns' := by
  have H0 := H.app (ownB eU8 [y]) (fun _ => own_low _ _ _)
  have hnd := H.nod
  have hlt := H.lt
  have hs : Sl (m ++ [ownB eU8 [y]]) (slO m.length 1) [y] [m.length] := .own m.length 1 [y] [] (by simp) (by simp)
  have hq : (r :: (ix ++ [m.length])).Nodup := by
    have q : ((r :: ix) ++ ([] : List Nat)).Nodup := hnd.sublist (by simp)
    exact nod_last q (fun n hn => hlt n (by simp only [List.mem_cons, List.mem_append] at hn ⊢; rcases hn with h | h <;> simp [h]))
  obtain ⟨m1, E, e1, r1, l1, f1, c1⟩ := push_rd H0 hs hq hl
  rw [List.length_append, List.length_singleton] at e1 r1 l1 f1
  rw [List.append_assoc] at e1
  have hbr : b ≠ r := fun e => by subst e; simp at hnd
  have fr : ∀ n, n < m.length → n ≠ r → m1[n]? = m[n]? := fun n h1 h2 => by rw [f1 n (by omega) h2, List.getElem?_append_left h1]
  have ag : ∀ n ∈ b :: (ne ++ nh), m1[n]? = m[n]? := fun n hn => fr n (hlt n (by simp only [List.mem_cons, List.mem_append] at hn ⊢; rcases hn with h | h | h <;> simp [h])) (fun e => by
    subst e
    rcases List.mem_cons.1 hn with h | h
    · exact hbr h.symm
    · rcases List.mem_append.1 h with h | h <;> simp [h] at hnd)
  have hb1 : m1[b]? = some (fdB w rv ev l.t l.n hv) := by rw [ag b (by simp)]; exact H.box
  have hnd2 : (b :: (m.length + 2) :: ((ix ++ [m.length]) ++ (ne ++ nh))).Nodup := by
    have q : ((b :: ix) ++ ([] ++ (ne ++ nh))).Nodup := hnd.sublist (by simp)
    have q2 := nod_mid (N := m.length) q (fun n hn => hlt n (by simp only [List.mem_cons, List.mem_append] at hn ⊢; rcases hn with h | h <;> simp [h])) (fun n hn => hlt n (by simp only [List.mem_cons, List.mem_append] at hn ⊢; rcases hn with h | h <;> simp [h]))
    have q' : (b :: ((ix ++ [m.length]) ++ (ne ++ nh))).Nodup := by simpa using q2
    obtain ⟨q1, q2⟩ := List.nodup_cons.1 q'
    refine List.nodup_cons.2 ⟨fun h => ?_, List.nodup_cons.2 ⟨fun h => ?_, q2⟩⟩
    · rcases List.mem_cons.1 h with h | h
      · have := hlt b (by simp); omega
      · exact q1 h
    · have : m.length + 2 < m.length + 1 := by
        simp only [List.mem_append, List.mem_singleton] at h
        rcases h with (h | h) | h | h
        · have := hlt _ (show m.length + 2 ∈ _ by simp [h]); omega
        · omega
        · have := hlt _ (show m.length + 2 ∈ _ by simp [h]); omega
        · have := hlt _ (show m.length + 2 ∈ _ by simp [h]); omega
      omega
  have hnew := rebox (w := w) (t := l.t) (n := l.n) hb1 r1 (H.es.agree fun n hn => ag n (by simp [hn])) (H.hs.agree fun n hn => ag n (by simp [hn])) hnd2 c1
  refine ⟨m1, _, e1, hb1, ⟨_, _, _, _, _, _, _, _, _, rfl, hnew⟩, ?_⟩
  refine ⟨by rw [List.length_set]; omega, fun n h1 h2 => ?_, fun n h => ?_⟩
  · rw [List.getElem?_set_ne (fun e => h2 (by rw [← e]; simp))]
    exact fr n h1 (fun h => h2 (by simp [h]))
  · simp only [List.mem_cons, List.mem_append, List.mem_singleton] at h ⊢
    rcases h with h | h | (h | h) | h | h
    · simp [h]
    · omega
    · simp [h]
    · simp at h; omega
    · simp [h]
    · simp [h]
end Go.Ab
namespace Go.Ab
set_option maxHeartbeats 4000000
theorem Fd.setT {m : Mem} {b : Nat} {w : WayT} {l : LnT} {ec : List Int} {ns : List Nat} (H : Fd m b w l ec ns) (t : Bool) : ∃ rv ev hv, m[b]? = some (fdB w rv ev l.t l.n hv) ∧ Fd (m.set b (fdB w rv ev t l.n hv)) b w ⟨l.rows, l.cur, t, l.n⟩ ec ns ∧ Tr m (m.set b (fdB w rv ev t l.n hv)) ns ns := by
  obtain ⟨rv, ev, hv, r, ix, ne, nh, ps, c, rfl, H⟩ := H
  have hnew := rebox (w := w) (t := t) (n := l.n) H.box H.rs H.es H.hs H.nod H.cl
  exact ⟨rv, ev, hv, H.box, ⟨_, _, _, _, _, _, _, _, _, rfl, hnew⟩, ⟨by simp, fun n h1 h2 => List.getElem?_set_ne (fun e => h2 (by rw [← e]; simp)), fun n h => .inl h⟩⟩
theorem Fd.brk {m : Mem} {b : Nat} {w : WayT} {l : LnT} {ec : List Int} {ns : List Nat} (H : Fd m b w l ec ns) (n : Int) : ∃ rv ev hv ns', m[b]? = some (fdB w rv ev l.t l.n hv) ∧ Fd (m.set b (fdB w rv nilW l.t n hv)) b w ⟨l.rows, [], l.t, n⟩ ec ns' ∧ Tr m (m.set b (fdB w rv nilW l.t n hv)) ns ns' := by
  obtain ⟨rv, ev, hv, r, ix, ne, nh, ps, c, rfl, H⟩ := H
  have hnd : ((b :: r :: ix) ++ (ne ++ nh)).Nodup := H.nod
  have hnew := rebox (w := w) (t := l.t) (n := n) H.box H.rs .nil H.hs (nod_cut hnd) H.cl
  refine ⟨rv, ev, hv, _, H.box, ⟨_, _, _, _, _, _, _, _, _, rfl, hnew⟩, ⟨by simp, fun n h1 h2 => List.getElem?_set_ne (fun e => h2 (by rw [← e]; simp)), fun n h => ?_⟩⟩
  simp only [List.nil_append, List.mem_cons, List.mem_append] at h ⊢
  rcases h with h | h | h | h <;> simp [h]
abbrev HearR (m : Mem) (b : Nat) (w : WayT) (ns : List Nat) (s : LnT × List Int) (ec : List Int) (r : Option VM) : Prop := ∃ m' ns', r = some (.tuple #[], m') ∧ Fd m' b w s.1 (ec ++ s.2) ns' ∧ Tr m m' ns ns'
theorem h_lit {m : Mem} {b : Nat} {w : WayT} {l : LnT} {ec : List Int} {ns : List Nat} (H : Fd m b w l ec ns) (y : Int) (ht : l.t = true) (hs' : l.small) (h40 : l.rows.length ≤ 40) (hc : l.cur.length + 1 < 1000000000) (he : ec.length + 2 < 1000000000) : HearR m b w ns (takeS w ⟨l.rows, l.cur, false, l.n⟩ y) ec (X_impl_feeder_hear [ptr b, .int .u8 y] m) := by
  obtain ⟨m1, ns1, e1, F1, T1⟩ := d_take H y hs' h40 hc he
  have e : takeS w ⟨l.rows, l.cur, false, l.n⟩ y = (⟨(takeS w l y).1.rows, (takeS w l y).1.cur, false, (takeS w l y).1.n⟩, (takeS w l y).2) := by
    unfold takeS
    have hz : LnT.size ⟨l.rows, l.cur, false, l.n⟩ = l.size := rfl
    rw [hz]
    split <;> rfl
  obtain ⟨rv, ev, hv, b1, F2, T2⟩ := F1.setT false
  rw [e]
  refine ⟨_, _, ?_, F2, T1.trans T2⟩
  have k64 := f_has w 64 k64_ (by omega)
  obtain ⟨rv0, ev0, hv0, hbox, _⟩ := H.box
  rw [ht] at hbox
  cases c64 : hs w 64
  · rw [c64] at k64
    simp -implicitDefEqProofs [-fcall_eq, X_impl_feeder_hear, hbox, k64, e1, b1]
  · rw [c64] at k64
    by_cases h13 : y = 13
    · subst h13
      simp -implicitDefEqProofs [-fcall_eq, X_impl_feeder_hear, hbox, k64, e1, b1]
    · simp -implicitDefEqProofs [-fcall_eq, X_impl_feeder_hear, hbox, k64, h13, e1, b1]
theorem h_ret {m : Mem} {b : Nat} {w : WayT} {l : LnT} {ec : List Int} {ns : List Nat} (H : Fd m b w l ec ns) (ht : l.t = false) (c64 : hs w 64 = true) : X_impl_feeder_hear [ptr b, .int .u8 13] m = X_impl_feeder_hear [ptr b, .int .u8 10] m := by
  have k64 := f_has w 64 k64_ (by omega) m
  rw [c64] at k64
  obtain ⟨rv0, ev0, hv0, hbox, _⟩ := H.box
  rw [ht] at hbox
  simp -implicitDefEqProofs [-fcall_eq, X_impl_feeder_hear, hbox, k64]
end Go.Ab
