/- What the functions of the program answer, for all arguments that the theorems name as conditions. -/
import Derived.Test.YtcfjcghbinnngaaS14Mh
import Derived.Test.YtcfjcghbinnngaaS14Mj
set_option linter.unusedVariables false
set_option linter.unusedSimpArgs false
namespace Go.Ab
open Go.Proofs
set_option maxHeartbeats 8000000
set_option maxRecDepth 100000
theorem n_of {X : List Value → Mem → Option VM} {args fr xs : List Value} {v0 w : Value} {M0 M : Mem} (ha : mapO (fz 64 M) args = some fr) (hX : X fr [] = some (v0, M0)) (hz : fz 64 M0 v0 = some w) (hn : mapF (frz 64 M) args = some (xs, [])) : ncall X args M = some (w, M) := by
  show ob (mapO (fz 64 M) args) _ = _
  rw [ha, ob_some, hX, ob_some]
  simp only [hz, ob_some, hn]
  rfl
abbrev lN0 : Value := .agg #[nilW, nilW, .bool false, .int .i64 0]
theorem frz_lN0 (k : Nat) (M : Mem) : frz (k + 2) M lN0 = some (.agg #[roS 0 [], roS 0 [], .bool false, .int .i64 0], []) := rfl
theorem z_FLX (l : LnT) (y : Int) (hok : lnOk l) (y0 : 0 ≤ y) (y1 : y < 256) : ∃ v0 M0, X_impl_FeedLine [wayV w0, lnV l, .int .u8 y] [] = some (v0, M0) ∧ fz 64 M0 v0 = some (lrF 0 false [] (feedS w0 l y).2 (feedS w0 l y).1) := by
  obtain ⟨hE, eE, ps, c, p1, p2, p3, I⟩ := s_impl_FL w0 l y (ask_w0 hok) ⟨hok.2.2.2.2.1, hok.2.2.2.2.2⟩ y0 y1
  generalize feedS w0 l y = SS at *
  obtain ⟨⟨Sr, Sc, St, Sn⟩, O⟩ := SS
  simp only at p1 p2 p3 I
  subst p1 p2 p3
  exact ⟨_, _, I, fz_lo hE eE ps c St Sn⟩
theorem z_FL0 (l : LnT) (y : Int) (hok : lnOk l) (y0 : 0 ≤ y) (y1 : y < 256) (M : Mem) : ncall X_impl_FeedLine [wayV w0, lnV l, .int .u8 y] M = some (lrF 0 false [] (feedS w0 l y).2 (feedS w0 l y).1, M) := by
  obtain ⟨v0, M0, I, hz⟩ := z_FLX l y hok y0 y1
  refine n_of (fr := [wayV w0, lnV l, .int .u8 y]) (by simp) I hz (mapF_id fun x hx => scal2_frz 62 M ?_)
  simp only [List.mem_cons, List.not_mem_nil, or_false] at hx
  rcases hx with rfl | rfl | rfl <;> rfl
theorem z_FLN (y : Int) (y0 : 0 ≤ y) (y1 : y < 256) (M : Mem) : ncall X_impl_FeedLine [wayV w0, lN0, .int .u8 y] M = some (lrF 0 false [] (feedS w0 ⟨[], [], false, 0⟩ y).2 (feedS w0 ⟨[], [], false, 0⟩ y).1, M) := by
  have okN : lnOk ⟨[], [], false, 0⟩ := ⟨by simp, by simp [LnT.size, sumL], by simp, by simp, fun x hx => by simp at hx, fun x hx => by simp at hx⟩
  obtain ⟨v0, M0, I, hz⟩ := z_FLX ⟨[], [], false, 0⟩ y okN y0 y1
  refine n_of (fr := [wayV w0, lnV ⟨[], [], false, 0⟩, .int .u8 y]) (by simp [frS_nil]) I hz (xs := [wayV w0, .agg #[roS 0 [], roS 0 [], .bool false, .int .i64 0], .int .u8 y]) ?_
  unfold mapF
  rw [scal2_frz 62 M (v := wayV w0) rfl]
  simp only
  unfold mapF
  rw [frz_lN0 62]
  simp only
  rfl
theorem s_QueueSize (l : LnT) (hl : l.small) (h0 : lineF l = 0) (h40 : l.rows.length ≤ 40) : X_impl_QueueSize [lnV l] [] = some (.agg #[.int .i64 0, .int .i64 (l.size : Nat)], []) := by
  have c1 := s_impl_LineFault l hl
  rw [h0] at c1
  have c2 := s_impl_Line_size l hl h40
  simp (maxSteps := 4000000) -implicitDefEqProofs [X_impl_QueueSize, retK_eq, c1, c2]
abbrev eM0 (l : LnT) : Mem := [wB w0, blk (lnT l [])]
theorem s_UsualWay : X_impl_UsualWay [.int .i64 511] [] = some (.agg #[.int .i64 0, .int .i64 511, .int .i64 127, .int .i64 21, .int .i64 23, .int .i64 4, .int .i64 3, .int .i64 22], []) := by
  have c3 := s_impl_in 511 0 511
  have e : inB 511 0 511 = true := rfl
  rw [e] at c3
  simp -implicitDefEqProofs [X_impl_UsualWay, X_impl_usual, retK_eq, c3]
theorem l_Ends (code : List Int) (hc : bytesOk code) (fin : ∀ (l : LnT) (q : Nat), edOk l → L_laws_FnEnds 0 (q + 1) 0 [frS eU8 code, ptr 0, ptr 1, .int .i64 50] (eM0 l) = some (.bool true, [])) (j : Nat) : ∀ (k : Nat) (l : LnT) (q : Nat), k + j = 50 → edOk l → j < q → L_laws_FnEnds 0 q 0 [frS eU8 code, ptr 0, ptr 1, .int .i64 k] (eM0 l) = some (.bool true, []) := by
  induction j with
  | zero =>
    intro k l q hk hl hq
    obtain ⟨q, rfl⟩ : ∃ n, q = n + 1 := ⟨q - 1, by omega⟩
    obtain rfl : k = 50 := by omega
    exact fin l q hl
  | succ j ih =>
    intro k l q hk hl hq
    obtain ⟨q, rfl⟩ : ∃ n, q = n + 1 := ⟨q - 1, by omega⟩
    obtain ⟨c, c0, c1, e1⟩ := s_lwAtK code hc k 26 (by omega) (by omega) (by omega) (by omega)
    obtain ⟨d, d0, d1, e2⟩ := s_lwAtK code hc (k + 7) 9 (by omega) (by omega) (by omega) (by omega)
    have w1 : IntKind.i64.wrap (97 + c) = 97 + c := wrap_i64 (by omega) (by omega)
    have w2 : IntKind.u8.wrap (97 + c) = 97 + c := wrap_u8' (by omega) (by omega)
    have w3 : IntKind.i64.wrap ((k : Int) + 7) = k + 7 := wrap_i64 (by omega) (by omega)
    have w4 : IntKind.i64.wrap ((k : Int) + 1) = k + 1 := wrap_i64 (by omega) (by omega)
    have g : (k : Int) < 50 := by omega
    have ok := edOk_ln hl
    by_cases hd : d = 0
    · subst hd
      have z := z_FL0 l 127 ok (by omega) (by omega)
      have h := ih (k + 1) (feedS w0 l 127).1 q (by omega) (ed_erase hl) (by omega)
      generalize feedS w0 l 127 = S at *
      obtain ⟨⟨Sr, Sc, St, Sn⟩, O⟩ := S
      obtain ⟨rows, cur, t, n⟩ := l
      push_cast at h
      refine Eq.trans ?_ h
      simp (maxSteps := 1000000) -implicitDefEqProofs [-icall_eq, L_laws_FnEnds, retK_eq, cutK_eq, g, e1, e2, w1, w2, w3, w4, z]
    · have z := z_FL0 l (97 + c) ok (by omega) (by omega)
      have h := ih (k + 1) (feedS w0 l (97 + c)).1 q (by omega) (ed_letter hl (by omega) (by omega)) (by omega)
      generalize feedS w0 l (97 + c) = S at *
      obtain ⟨⟨Sr, Sc, St, Sn⟩, O⟩ := S
      obtain ⟨rows, cur, t, n⟩ := l
      push_cast at h
      refine Eq.trans ?_ h
      simp (maxSteps := 1000000) -implicitDefEqProofs [-icall_eq, L_laws_FnEnds, retK_eq, cutK_eq, g, e1, e2, w1, w2, w3, w4, hd, z]
theorem first_Ends (code : List Int) (hc : bytesOk code) (q : Nat) : ∃ l, edOk l ∧ L_laws_FnEnds 0 (q + 1) 0 [frS eU8 code, ptr 0, ptr 1, .int .i64 0] [wB w0, blk [nilW, nilW, .bool false, .int .i64 0]] = L_laws_FnEnds 0 q 0 [frS eU8 code, ptr 0, ptr 1, .int .i64 1] (eM0 l) := by
  have hl : edOk ⟨[], [], false, 0⟩ := ⟨rfl, rfl, rfl, by simp, fun x hx => by simp at hx⟩
  obtain ⟨c, c0, c1, e1⟩ := s_lwAtK code hc 0 26 (by omega) (by omega) (by omega) (by omega)
  obtain ⟨d, d0, d1, e2⟩ := s_lwAtK code hc 7 9 (by omega) (by omega) (by omega) (by omega)
  have w1 : IntKind.i64.wrap (97 + c) = 97 + c := wrap_i64 (by omega) (by omega)
  have w2 : IntKind.u8.wrap (97 + c) = 97 + c := wrap_u8' (by omega) (by omega)
  have w3 : IntKind.i64.wrap 7 = 7 := rfl
  have w4 : IntKind.i64.wrap 1 = 1 := rfl
  by_cases hd : d = 0
  · subst hd
    have z := z_FLN 127 (by omega) (by omega)
    refine ⟨_, ed_erase hl, ?_⟩
    generalize feedS w0 ⟨[], [], false, 0⟩ 127 = S at *
    obtain ⟨⟨Sr, Sc, St, Sn⟩, O⟩ := S
    simp (maxSteps := 1000000) -implicitDefEqProofs [L_laws_FnEnds, retK_eq, cutK_eq, e1, e2, w1, w2, w3, w4, z]
  · have z := z_FLN (97 + c) (by omega) (by omega)
    refine ⟨_, ed_letter hl (show 97 ≤ 97 + c by omega) (by omega), ?_⟩
    generalize feedS w0 ⟨[], [], false, 0⟩ (97 + c) = S at *
    obtain ⟨⟨Sr, Sc, St, Sn⟩, O⟩ := S
    simp (maxSteps := 1000000) -implicitDefEqProofs [L_laws_FnEnds, retK_eq, cutK_eq, e1, e2, w1, w2, w3, w4, hd, z]
end Go.Ab
namespace Go.Ab
open Go.Proofs
set_option maxHeartbeats 8000000
set_option maxRecDepth 100000
theorem ends_core (code cur A B O : List Int) (n : Int) (d : Int) (b2 : Bool) (r2 : List (List Int)) (q : Nat) (hc : cur.length ≤ 39) (hd0 : 0 ≤ d) (hd1 : d < 9) (hn : n = 1 + d)
    (e2 : X_laws_lwAt [frS eU8 code, .int .i64 2, .int .i64 9] [] = some (.int .i64 d, []))
    (zE : ∀ M, ncall X_impl_FeedLine [wayV w0, lnV ⟨[], cur, false, 0⟩, .int .u8 10] M = some (lrF 0 false [] O ⟨[cur ++ [10]], [], false, 0⟩, M))
    (zX : ∀ M, icall X_impl_ReadLine [wayV w0, lnV ⟨[cur ++ [10]], [], false, 0⟩, .int .i64 99] M = some (lrF 0 true (cur ++ [10]) [] ⟨[], [], false, 0⟩, M))
    (zP : ∀ M, icall X_impl_ReadLine [wayV w0, lnV ⟨[cur ++ [10]], [], false, 0⟩, .int .i64 n] M = some (lrF 0 true A [] ⟨r2, [], false, 0⟩, M))
    (zR : ∀ M, icall X_impl_ReadLine [wayV w0, lnV ⟨r2, [], false, 0⟩, .int .i64 99] M = some (lrF 0 b2 B [] ⟨[], [], false, 0⟩, M))
    (zN : ∀ M, icall X_impl_ReadLine [wayV w0, lnV ⟨[], [], false, 0⟩, .int .i64 5] M = some (lrF 0 false [] [] ⟨[], [], false, 0⟩, M))
    (hAB : A ++ B = cur ++ [10]) : L_laws_FnEnds 0 (q + 1) 0 [frS eU8 code, ptr 0, ptr 1, .int .i64 50] (eM0 ⟨[], cur, false, 0⟩) = some (.bool true, []) := by
  have hlen : A.length + B.length = cur.length + 1 := by have := congrArg List.length hAB; simpa using this
  have w1 : IntKind.i64.wrap (1 + d) = 1 + d := wrap_i64 (by omega) (by omega)
  subst hn
  have p1 := fun m n o c => apL_frS (E := eU8) (m := m) (sz := 1) (bytes := 1) (n := n) (o := o) (len := 0) (c := c) (l := A) rfl (by omega) (by omega)
  have p2 := fun m n o c => apL_frS (E := eU8) (m := m) (sz := 1) (bytes := 1) (n := n) (o := o) (len := A.length) (c := c) (l := B) rfl (by omega) (by omega)
  have p3 := fun m n o c => apL_frS (E := eU8) (m := m) (sz := 1) (bytes := 1) (n := n) (o := o) (len := 0) (c := c) (l := cur) rfl (by omega) (by omega)
  have p4 := fun m n o c k o2 c2 => apL_sl (m := m) (sz := 1) (bytes := 1) (n := n) (o := o) (len := cur.length) (c := c) (n2 := k) (o2 := o2) (len2 := 1) (c2 := c2) (by omega) (by omega)
  have b0' : ∀ m n cs k, apB m (some (ownB eU8 [])) n 0 0 1 cs k = some (slO m.length k, m.set n ⟨cellsE eU8 [], 1, true, false⟩ ++ [⟨cs, 1, true, true⟩]) := fun m n cs k => by
    have := apB_own (E := eU8) (m := m) (l := []) (n := n) (sz := 1) (cs := cs) (k := k) rfl
    simpa [cellsE] using this
  have q1 := fun m n cs k => apB_own (E := eU8) (m := m) (l := A) (n := n) (sz := 1) (cs := cs) (k := k) rfl
  have q2 := fun m n cs k => apB_own (E := eU8) (m := m) (l := cur) (n := n) (sz := 1) (cs := cs) (k := k) rfl
  have k0 : (⟨[], 1, true, true⟩ : Blk) = ownB eU8 [] := rfl
  have k1 : (⟨cellsE eU8 A, 1, true, true⟩ : Blk) = ownB eU8 A := rfl
  have k2 : (⟨cellsE eU8 A ++ cellsE eU8 B, 1, true, true⟩ : Blk) = ownB eU8 (A ++ B) := mk_own2 eU8 _ _ 1 rfl
  have k3 : (⟨cellsE eU8 cur, 1, true, true⟩ : Blk) = ownB eU8 cur := rfl
  have k4 := u8_app cur 10
  have f1 := fun k m => fzO_own eU8 k m (A ++ B)
  simp only [List.length_append] at f1
  have f2 : ∀ k m, fzO (k + 1) m (some (ownB eU8 (cur ++ [10]))) 0 (cur.length + 1) = some (frS eU8 (cur ++ [10])) := fun k m => by
    have := fzO_own eU8 k m (cur ++ [10])
    simpa using this
  have eW := s_lwSame (cur ++ [10])
  have okN : lnOk ⟨[], [], false, 0⟩ := ⟨by simp, by simp [LnT.size, sumL], by simp, by simp, fun x hx => by simp at hx, fun x hx => by simp at hx⟩
  have eQ := s_QueueSize ⟨[], [], false, 0⟩ (lnOk_small okN) (lineF_ed okN) (by simp)
  have eS : LnT.size ⟨[], [], false, 0⟩ = 0 := by simp [LnT.size, sumL]
  rw [eS] at eQ
  rw [hAB] at k2 f1
  generalize hX : cur ++ [10] = X at *
  have eR : rdM (some (⟨[.int .u8 10], 1, true, true⟩ : Blk)) 0 1 = some [.int .u8 10] := rfl
  simp (maxSteps := 4000000) -implicitDefEqProofs [-icall_eq, L_laws_FnEnds, retK_eq, e2, zE, zX, zP, zR, zN, w1, p1, p2, p3, p4, b0', q1, q2, k0, k1, k2, k3, k4, f1, f2, eW, eQ, eR]
theorem ends_fin (code : List Int) (hcode : bytesOk code) (l : LnT) (q : Nat) (hl : edOk l) : L_laws_FnEnds 0 (q + 1) 0 [frS eU8 code, ptr 0, ptr 1, .int .i64 50] (eM0 l) = some (.bool true, []) := by
  have ok := edOk_ln hl
  have zE := z_FL0 l 10 ok (by omega) (by omega)
  rw [ed_end hl] at zE
  have ok2 : lnOk ⟨[l.cur ++ [10]], [], false, 0⟩ := by
    have := feedS_ok w0 ok (b := 10) (by omega) (by omega)
    rwa [ed_end hl] at this
  generalize (feedS w0 l 10).2 = O at *
  obtain ⟨rows, cur, t, n⟩ := l
  obtain ⟨h1, h2, h3, h4, h5⟩ := hl
  simp only at h1 h2 h3 h4 h5 ok2 zE
  subst h1 h2 h3
  obtain ⟨d, d0, d1, e2⟩ := s_lwAtK code hcode 2 9 (by omega) (by omega) (by omega) (by omega)
  have hXl : (cur ++ [10]).length = cur.length + 1 := by simp
  have okN : lnOk ⟨[], [], false, 0⟩ := ⟨by simp, by simp [LnT.size, sumL], by simp, by simp, fun x hx => by simp at hx, fun x hx => by simp at hx⟩
  have zX := z_RL_all (cur ++ [10]) false 0 99 ok2 (by omega) (by omega) (by omega) (by omega)
  have zN := z_RL_none false 0 5 okN (by omega) (by omega)
  obtain ⟨N, hN⟩ := Int.eq_ofNat_of_zero_le (show 0 ≤ 1 + d by omega)
  by_cases hp : N < (cur ++ [10]).length
  · have zP := z_RL_part (cur ++ [10]) false 0 N ok2 (by omega) (by omega) hp (by omega)
    have ok3 : lnOk ⟨[(cur ++ [10]).drop N], [], false, 0⟩ := by
      obtain ⟨g1, g2, g3, g4, g5, g6⟩ := ok2
      refine ⟨by simp, by simp [LnT.size, sumL]; omega, by simp, by simp, fun x hx => ?_, fun x hx => by simp at hx⟩
      simp only [List.mem_singleton] at hx
      subst hx
      exact fun y hy => g5 _ (by simp) y (List.mem_of_mem_drop hy)
    have zR := z_RL_all ((cur ++ [10]).drop N) false 0 99 ok3 (by rw [List.length_drop]; omega) (by omega) (by rw [List.length_drop]; omega) (by rw [List.length_drop]; omega)
    exact ends_core code cur _ _ O N d true _ q h4 d0 d1 hN.symm e2 zE zX zP zR zN (List.take_append_drop _ _)
  · have zP := z_RL_all (cur ++ [10]) false 0 N ok2 (by omega) (by omega) (by omega) (by omega)
    have zR := z_RL_none false 0 99 okN (by omega) (by omega)
    exact ends_core code cur _ _ O N d false _ q h4 d0 d1 hN.symm e2 zE zX zP zR zN (List.append_nil _)
theorem s_FnEnds (l : List Int) (hb : ∀ x ∈ l, 0 ≤ x ∧ x < 256) : X_laws_FnEnds [frS eU8 l] [] = some (.bool true, []) := by
  have b0 := s_lwBig l
  by_cases hbig : 1048576 < l.length
  · simp (maxSteps := 1000000) -implicitDefEqProofs [X_laws_FnEnds, retK_eq, b0, hbig]
  have hl := bytes_small hbig hb
  obtain ⟨q, hq⟩ : ∃ q, QQ = q + 1 := ⟨QQ - 1, by unfold QQ; omega⟩
  obtain ⟨l1, h1, h2⟩ := first_Ends l hl q
  have h := l_Ends l hl (fun l' q h => ends_fin l hl l' q h) 49 1 l1 q (by omega) h1 (by unfold QQ at hq; omega)
  have c2 := s_UsualWay
  refine Eq.trans ?_ (h2.trans h)
  simp (maxSteps := 1000000) -implicitDefEqProofs [X_laws_FnEnds, cutK_eq, b0, hbig, c2, hq]
def good : List Nat := [22, 5]
theorem good_ok : goodB CT good = true := by kernel_rfl
theorem all_FnEnds : ∀ xs, TypedAll CT [22] xs → Fz CT 3 xs (.bool true)
  | [a], h => by
    obtain ⟨l, rfl, _, hb⟩ := typed_code (s := 22) (e := 5) h.1 rfl rfl rfl
    exact fz_law ok_X_laws_FnEnds (s_FnEnds l hb) (by simp)
  | [], h => h.elim
  | _ :: _ :: _, h => h.2.elim
end Go.Ab
