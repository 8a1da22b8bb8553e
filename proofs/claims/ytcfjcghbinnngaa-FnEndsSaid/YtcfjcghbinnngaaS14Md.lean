/- What the functions of the program answer, for all arguments that the theorems name as conditions. -/
import Derived.Test.YtcfjcghbinnngaaS14Mc
import Derived.Test.YtcfjcghbinnngaaFD
set_option linter.unusedVariables false
set_option linter.unusedSimpArgs false
namespace Go.Ab
set_option maxHeartbeats 4000000
def endB (l : LnT) (k : Nat) : Prop := l.rows.length < 40 ∧ l.size + k ≤ 40
instance (l : LnT) (k : Nat) : Decidable (endB l k) := by unfold endB; infer_instance
def takeS (w : WayT) (l : LnT) (b : Int) : LnT × List Int := if 40 < l.size + 2 then (l, []) else (⟨l.rows, l.cur ++ [b], l.t, l.n⟩, ecS w b)
def canonS (w : WayT) (l : LnT) (b : Int) : LnT × List Int :=
  if isS w.g b then (⟨l.rows, l.cur, true, l.n⟩, [])
  else if isS w.b b || (isS w.d b || isS w.c b) then (⟨l.rows, (goneS w l.cur b).1, l.t, l.n⟩, (goneS w l.cur b).2)
  else if isS w.e b then (if endB l 0 then (⟨l.rows ++ [l.cur], [], l.t, l.n⟩, []) else (l, []))
  else if b = 10 then (if endB l 1 then (⟨l.rows ++ [l.cur ++ [10]], [], l.t, l.n⟩, ecS w 10) else (l, []))
  else takeS w l b
end Go.Ab
namespace Go.Ab
set_option maxHeartbeats 4000000
def rawS (w : WayT) (l : LnT) (b : Int) : LnT × List Int := if l.rows.length < 40 ∧ l.size < 40 then (⟨l.rows ++ [[b]], l.cur, l.t, l.n⟩, ecS w b) else (l, [])
def coreS (w : WayT) (l : LnT) (b : Int) : LnT × List Int := if hs w 32 && isS w.f b then (⟨l.rows, [], l.t, min 999 (l.n + 1)⟩, ecS w b) else if hs w 1 then canonS w l b else rawS w l b
def feedS (w : WayT) (l : LnT) (b : Int) : LnT × List Int := if l.t then takeS w ⟨l.rows, l.cur, false, l.n⟩ b else coreS w l (if decide (b = 13) && hs w 64 then 10 else b)
end Go.Ab
namespace Go.Ab
set_option maxHeartbeats 4000000
def lnOk (l : LnT) : Prop := l.rows.length ≤ 40 ∧ l.size ≤ 40 ∧ 0 ≤ l.n ∧ l.n ≤ 999 ∧ (∀ x ∈ l.rows, bOk x) ∧ bOk l.cur
theorem sumL_app (a b : List (List Int)) : sumL (a ++ b) = sumL a + sumL b := by
  induction a with
  | nil => simp [sumL]
  | cons x r ih => rw [List.cons_append, sumL, sumL, ih]; omega
theorem sumL_one (x : List Int) : sumL [x] = x.length := by simp [sumL]
theorem dwS_pre (w : WayT) (p : Int → Bool) : ∀ (n : Nat) (c : List Int), ∃ k, (dwS w p n c).1 = c.take k
  | 0, c => ⟨c.length, by simp [dwS]⟩
  | n + 1, c => by
    rw [dwS]
    split
    · obtain ⟨k, hk⟩ := dwS_pre w p n (c.take (laE c))
      exact ⟨min k (laE c), by rw [hk, List.take_take]⟩
    · exact ⟨c.length, by simp⟩
theorem gone_pre (w : WayT) (c : List Int) (b : Int) : ∃ k, (goneS w c b).1 = c.take k := by
  unfold goneS
  split
  · split
    · exact ⟨0, rfl⟩
    · exact ⟨_, rfl⟩
  · split
    · obtain ⟨k1, h1⟩ := dwS_pre w (fun b => decide (b = 32)) c.length c
      obtain ⟨k2, h2⟩ := dwS_pre w (fun b => decide (¬ b = 32)) c.length (dwS w (fun b => decide (b = 32)) c.length c).1
      refine ⟨min k2 k1, ?_⟩
      show (wordS w c).1 = _
      unfold wordS
      rw [h2, h1, List.take_take]
    · exact dwS_pre w _ _ _
theorem bOk_take {c : List Int} (h : bOk c) (k : Nat) : bOk (c.take k) := fun x hx => h x (List.mem_of_mem_take hx)
theorem bOk_app {a b : List Int} (h1 : bOk a) (h2 : bOk b) : bOk (a ++ b) := fun x hx => by
  rcases List.mem_append.1 hx with h | h
  · exact h1 x h
  · exact h2 x h
theorem bOk_one {b : Int} (h0 : 0 ≤ b) (h1 : b < 256) : bOk [b] := fun x hx => by
  simp at hx
  omega
theorem mem_snoc {α : Type} {P : α → Prop} {l : List α} {x : α} (h1 : ∀ y ∈ l, P y) (h2 : P x) : ∀ y ∈ l ++ [x], P y := fun y hy => by
  rcases List.mem_append.1 hy with h | h
  · exact h1 y h
  · simp at h
    rw [h]
    exact h2
theorem takeS_ok (w : WayT) {l : LnT} {b : Int} (h : lnOk l) (h0 : 0 ≤ b) (h1 : b < 256) : lnOk (takeS w l b).1 := by
  unfold takeS
  split
  · exact h
  · obtain ⟨g1, g2, g3, g4, g5, g6⟩ := h
    refine ⟨g1, ?_, g3, g4, g5, bOk_app g6 (bOk_one h0 h1)⟩
    rename_i hs
    unfold LnT.size at hs ⊢
    simp only [List.length_append, List.length_singleton]
    omega
theorem rawS_ok (w : WayT) {l : LnT} {b : Int} (h : lnOk l) (h0 : 0 ≤ b) (h1 : b < 256) : lnOk (rawS w l b).1 := by
  unfold rawS
  obtain ⟨g1, g2, g3, g4, g5, g6⟩ := h
  split
  · rename_i hs
    refine ⟨by simp; omega, ?_, g3, g4, mem_snoc g5 (bOk_one h0 h1), g6⟩
    unfold LnT.size at hs ⊢
    simp only [sumL_app, sumL_one, List.length_singleton]
    omega
  · exact ⟨g1, g2, g3, g4, g5, g6⟩
theorem canonS_ok (w : WayT) {l : LnT} {b : Int} (h : lnOk l) (h0 : 0 ≤ b) (h1 : b < 256) : lnOk (canonS w l b).1 := by
  have hh := h
  obtain ⟨g1, g2, g3, g4, g5, g6⟩ := h
  unfold canonS
  split
  · exact ⟨g1, g2, g3, g4, g5, g6⟩
  split
  · obtain ⟨k, hk⟩ := gone_pre w l.cur b
    refine ⟨g1, ?_, g3, g4, g5, by show bOk (goneS w l.cur b).1; rw [hk]; exact bOk_take g6 k⟩
    unfold LnT.size at g2 ⊢
    simp only [hk, List.length_take]
    omega
  split
  · split
    · rename_i he
      refine ⟨by have := he.1; simp; omega, ?_, g3, g4, mem_snoc g5 g6, fun x hx => by cases hx⟩
      have := he.2
      unfold LnT.size at this ⊢
      simp only [sumL_app, sumL_one, List.length_nil]
      omega
    · exact hh
  split
  · split
    · rename_i he
      refine ⟨by have := he.1; simp; omega, ?_, g3, g4, mem_snoc g5 (bOk_app g6 (bOk_one (by omega) (by omega))), fun x hx => by cases hx⟩
      have := he.2
      unfold LnT.size at this ⊢
      simp only [sumL_app, sumL_one, List.length_nil, List.length_append, List.length_singleton]
      omega
    · exact hh
  · exact takeS_ok w hh h0 h1
theorem feedS_ok (w : WayT) {l : LnT} {b : Int} (h : lnOk l) (h0 : 0 ≤ b) (h1 : b < 256) : lnOk (feedS w l b).1 := by
  unfold feedS
  split
  · exact takeS_ok w (l := ⟨l.rows, l.cur, false, l.n⟩) h h0 h1
  · generalize hb : (if (decide (b = 13) && hs w 64) = true then (10 : Int) else b) = b'
    have hb0 : 0 ≤ b' ∧ b' < 256 := by
      rw [← hb]
      split <;> omega
    have hh := h
    obtain ⟨g1, g2, g3, g4, g5, g6⟩ := h
    unfold coreS
    split
    · refine ⟨g1, ?_, ?_, ?_, g5, fun x hx => by cases hx⟩
      · unfold LnT.size at g2 ⊢
        simp only [List.length_nil]
        omega
      · show 0 ≤ min 999 (l.n + 1)
        omega
      · show min 999 (l.n + 1) ≤ 999
        omega
    split
    · exact canonS_ok w hh hb0.1 hb0.2
    · exact rawS_ok w hh hb0.1 hb0.2
theorem lnOk_small {l : LnT} (h : lnOk l) : l.small := by
  obtain ⟨g1, g2, g3, g4, g5, g6⟩ := h
  have hs : ∀ (r : List (List Int)) x, x ∈ r → x.length ≤ sumL r := by
    intro r
    induction r with
    | nil => intro x hx; cases hx
    | cons y r ih =>
      intro x hx
      rw [sumL]
      rcases List.mem_cons.1 hx with rfl | hx
      · omega
      · have := ih x hx
        omega
  unfold LnT.size at g2
  exact ⟨by omega, fun x hx => by have := hs _ x hx; omega, by omega⟩
end Go.Ab
namespace Go.Ab
set_option maxHeartbeats 4000000
def elN (x : List Int) : El Int := ⟨[], if x = [] then .no (nilW) else .ow [] x [] 0 x.length, []⟩
theorem elN_ok (x : List Int) : (elN x).ok eU8 := by
  refine ⟨rfl, rfl, ?_⟩
  unfold elN
  split
  · exact .inl rfl
  · exact fun _ => rfl
theorem ok_N (l : List (List Int)) : ∀ e ∈ l.map elN, e.ok eU8 := by
  intro e he
  obtain ⟨x, _, rfl⟩ := List.mem_map.1 he
  exact elN_ok x
theorem famX_Nlen (k : Nat) (l : List (List Int)) : (famX k (l.map elN)).length = l.length := by
  induction l generalizing k with
  | nil => rfl
  | cons x r ih => simp [famX, elN, ih]
theorem famN_N (l : List (List Int)) : famN (l.map elN) ≤ l.length := by
  induction l with
  | nil => exact Nat.le_refl _
  | cons x r ih =>
    have : (elN x).p.n ≤ 1 := by unfold elN; split <;> simp [Pc.n]
    simp only [List.map_cons, famN, List.length_cons]
    omega
abbrev zLn : Blk := blk [nilW, nilW, .bool false, .int .i64 0]
theorem nd3 {b k y j : Nat} (hb : 2 ≤ b) (h1 : b + k ≤ y) (h2 : b + k ≤ j) (h3 : y ≠ j) : (0 :: 1 :: j :: (List.range' b k ++ [y])).Nodup := by
  have := nod_row1 (b := b) (k := k) h1 h2 h3
  refine List.nodup_cons.2 ⟨fun h => ?_, List.nodup_cons.2 ⟨fun h => ?_, this⟩⟩
  · simp at h; omega
  · simp at h; omega
theorem nd3' {b k j : Nat} (hb : 2 ≤ b) (h2 : b + k ≤ j) : (0 :: 1 :: j :: (List.range' b k ++ [])).Nodup := by
  have := nod_row0 (b := b) (k := k) h2
  refine List.nodup_cons.2 ⟨fun h => ?_, List.nodup_cons.2 ⟨fun h => ?_, this⟩⟩
  · simp at h; omega
  · simp at h; omega
theorem l_impl_clone_step (rows0 : List (List Int)) (cur : List Int) (t : Bool) (n : Int) (x : List Int) (r p : List (List Int)) (q : Nat) (hl : (p ++ x :: r).length < 1000000) (hx0 : x.length < 1000000000) : L_impl_Line_clone 0 (q + 1) 0 [ptr 0, ptr 1, slO 2 p.length, frS eBS (p ++ x :: r), .int .i64 (p ++ x :: r).length, .int .i64 p.length] (blk [frS eBS rows0, frS eU8 cur, .bool t, .int .i64 n] :: zLn :: famB 3 1 (p.map elN) :: famM eU8 (p.map elN)) = L_impl_Line_clone 0 q 0 [ptr 0, ptr 1, slO 2 (p.length + 1), frS eBS (p ++ x :: r), .int .i64 (p ++ x :: r).length, .int .i64 (p.length + 1)] (blk [frS eBS rows0, frS eU8 cur, .bool t, .int .i64 n] :: zLn :: famB 3 1 ((p ++ [x]).map elN) :: famM eU8 ((p ++ [x]).map elN)) := by
  have hx := ixa_mid eBS (sz := 1) rfl .i64 p x r
  have hw := wrap_next (n := p.length) (by simp at hl; omega)
  have e5 : (p.length : Int) < ((p ++ x :: r).length : Int) := by simp
  have hF : (famM eU8 (p.map elN)).length = famN (p.map elN) := famM_len eU8 _
  have hC : (famX 3 (p.map elN)).length = p.length := famX_Nlen 3 p
  have hN := famN_N p
  have hp2 : p.length < 1000000 := by simp at hl; omega
  have ho' : p.length + 1 < 1000000000 := by omega
  have p1 := fun m n o c n2 o2 len c2 => apL_sl (m := m) (sz := 1) (bytes := 24) (n := n) (o := o) (len := len) (c := c) (n2 := n2) (o2 := o2) (len2 := 1) (c2 := c2)
  have e4 : (p ++ [x]).map elN = p.map elN ++ [elN x] := by simp
  rw [e4]
  simp only [famB]
  generalize hR : L_impl_Line_clone 0 q 0 _ _ = RES
  generalize hFF : famM eU8 (p.map elN) = F at *
  generalize hCC : famX 3 (p.map elN) = C at *
  generalize hNN : famN (p.map elN) = N at *
  generalize hLL : ((p ++ x :: r).length : Int) = LL at *
  have hIX : famI (List.range' 3 N) (p.map elN) = C := by rw [← hNN, famI_range, hCC]
  have hrd := fun o => rdB_all (C := C) (s := 1) (o := o) hC
  by_cases hd : x = []
  · subst hd
    have hel : elN [] = ⟨[], .no (nilW), []⟩ := rfl
    have hrm : rdM (some ⟨[nilW], 1, true, true⟩) 0 1 = some [nilW] := rfl
    have hfin : ∀ pv, cutK 0 (blk [frS eBS rows0, frS eU8 cur, .bool t, .int .i64 n] :: zLn :: ⟨C, 1, true, false⟩ :: (F ++ [⟨[nilW], 1, true, true⟩, ⟨C ++ [nilW], 1, true, true⟩])) pv [ptr 0, ptr 1, slO (N + 3 + 1) (p.length + 1), frS eBS (p ++ [] :: r), .int .i64 LL, .int .i64 (p.length + 1)] (L_impl_Line_clone 0 q 0) = RES := by
      intro pv
      have H : Fam eU8 (blk [frS eBS rows0, frS eU8 cur, .bool t, .int .i64 n] :: zLn :: ⟨C, 1, true, false⟩ :: (F ++ [⟨[nilW], 1, true, true⟩, ⟨C ++ [nilW], 1, true, true⟩])) (N + 3 + 1) 1 (List.range' 3 N ++ []) (p.map elN ++ [elN []]) := by
        refine Fam.snoc eU8 (j := 0) (m := []) (by rw [hNN]; simp) (ok_N p) (elN_ok []) (fun i n b h1 h2 => in_row [_, _, _] F _ rfl h1 (by rwa [hFF] at h2)) (fun i n b h1 h2 => by simp at h1) rfl (nod_row0 (by omega)) (cs := C ++ [nilW]) ?_ (at_row [_, _, _] F _ (j := 1) (by simp; omega) rfl)
        rw [hIX, hel]
        rfl
      obtain ⟨c1, c2⟩ := H.can3a eU8 (p := 0) (r := 1) rfl rfl rfl rfl (nd3' (by omega) (by omega)) (by simp; omega)
      rw [cut_of c1 c2 (vs0 := [ptr 0, ptr 1, slO 2 (p.length + 1), frS eBS (p ++ [] :: r), .int .i64 LL, .int .i64 (p.length + 1)]) (by simp) (by simp)]
      rw [← hR]
      simp [famB]
    have cl0 : ∀ m, cloneV0 1 m (frS eU8 []) = some (nilW, m) := fun m => rfl
    simp (maxSteps := 400000) -implicitDefEqProofs [L_impl_Line_clone, hx, hw, p1, ho', hF, hC, hrd, hrm, e5, cl0, hfin]
  · have hel : elN x = ⟨[], .ow [] x [] 0 x.length, []⟩ := by unfold elN; rw [if_neg hd]
    have hrm : ∀ k : Nat, rdM (some ⟨[slO k x.length], 1, true, true⟩) 0 1 = some [slO k x.length] := fun k => rfl
    have cl := fun m => cloneV0_frS eU8 eU8_hard (sz := 1) rfl m x hd hx0
    have hfin : ∀ pv, cutK 0 (blk [frS eBS rows0, frS eU8 cur, .bool t, .int .i64 n] :: zLn :: ⟨C, 1, true, false⟩ :: (F ++ [ownB eU8 x, ⟨[slO (N + 2 + 1) x.length], 1, true, true⟩, ⟨C ++ [slO (N + 2 + 1) x.length], 1, true, true⟩])) pv [ptr 0, ptr 1, slO (N + 4 + 1) (p.length + 1), frS eBS (p ++ x :: r), .int .i64 LL, .int .i64 (p.length + 1)] (L_impl_Line_clone 0 q 0) = RES := by
      intro pv
      have H : Fam eU8 (blk [frS eBS rows0, frS eU8 cur, .bool t, .int .i64 n] :: zLn :: ⟨C, 1, true, false⟩ :: (F ++ [ownB eU8 x, ⟨[slO (N + 2 + 1) x.length], 1, true, true⟩, ⟨C ++ [slO (N + 2 + 1) x.length], 1, true, true⟩])) (N + 4 + 1) 1 (List.range' 3 N ++ [N + 2 + 1]) (p.map elN ++ [elN x]) := by
        refine Fam.snoc eU8 (j := 0) (m := []) (by rw [hNN]; simp) (ok_N p) (elN_ok x) (fun i n b h1 h2 => in_row [_, _, _] F _ rfl h1 (by rwa [hFF] at h2)) (fun i n b h1 h2 => ?_) (by rw [hel]; rfl) (nod_row1 (by omega) (by omega) (by omega)) (cs := C ++ [slO (N + 2 + 1) x.length]) ?_ (at_row [_, _, _] F _ (j := 2) (by simp; omega) rfl)
        · have hi := (List.getElem?_eq_some_iff.1 h1).1
          have : i = 0 := by simpa using hi
          subst this
          simp at h1
          subst h1
          rw [hel] at h2
          have h2 : some (ownB eU8 ([] ++ (x ++ []))) = some b := h2
          rw [← h2, List.nil_append, List.append_nil]
          exact at_row [_, _, _] F _ (j := 0) (by simp; omega) rfl
        · rw [hIX, hel]
          rfl
      obtain ⟨c1, c2⟩ := H.can3a eU8 (p := 0) (r := 1) rfl rfl rfl rfl (nd3 (by omega) (by omega) (by omega) (by omega)) (by simp; omega)
      rw [cut_of c1 c2 (vs0 := [ptr 0, ptr 1, slO 2 (p.length + 1), frS eBS (p ++ x :: r), .int .i64 LL, .int .i64 (p.length + 1)]) (by simp) (by simp)]
      rw [← hR]
      simp [famB]
    simp (maxSteps := 400000) -implicitDefEqProofs [L_impl_Line_clone, hx, hw, p1, ho', hF, hC, hrd, hrm, e5, cl, hfin]
theorem l_impl_clone_rows (rows0 : List (List Int)) (cur : List Int) (t : Bool) (n : Int) (r : List (List Int)) : ∀ (p : List (List Int)) (q : Nat), (p ++ r).length < 1000000 → (∀ x ∈ r, x.length < 1000000000) → L_impl_Line_clone 0 (q + r.length) 0 [ptr 0, ptr 1, slO 2 p.length, frS eBS (p ++ r), .int .i64 (p ++ r).length, .int .i64 p.length] (blk [frS eBS rows0, frS eU8 cur, .bool t, .int .i64 n] :: zLn :: famB 3 1 (p.map elN) :: famM eU8 (p.map elN)) = L_impl_Line_clone 0 q 0 [ptr 0, ptr 1, slO 2 (p ++ r).length, frS eBS (p ++ r), .int .i64 (p ++ r).length, .int .i64 (p ++ r).length] (blk [frS eBS rows0, frS eU8 cur, .bool t, .int .i64 n] :: zLn :: famB 3 1 ((p ++ r).map elN) :: famM eU8 ((p ++ r).map elN)) := by
  induction r with
  | nil => intro p q hl hb; simp
  | cons x r ih =>
    intro p q hl hb
    have h := ih (p ++ [x]) q (by simpa using hl) (fun y hy => hb y (by simp [hy]))
    have e1 : p ++ [x] ++ r = p ++ x :: r := by simp
    have e2 : (p ++ [x]).length = p.length + 1 := by simp
    rw [e1, e2] at h
    rw [List.length_cons, show q + (r.length + 1) = q + r.length + 1 by omega, l_impl_clone_step rows0 cur t n x r p (q + r.length) hl (hb x (by simp))]
    exact_mod_cast h
end Go.Ab
