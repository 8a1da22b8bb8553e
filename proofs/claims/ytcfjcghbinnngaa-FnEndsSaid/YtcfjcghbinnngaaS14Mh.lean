/- What the functions of the program answer, for all arguments that the theorems name as conditions. -/
import Derived.Test.YtcfjcghbinnngaaS14Mg
import Derived.Test.YtcfjcghbinnngaaS14Ma
import Derived.Test.YtcfjcghbinnngaaFD
set_option linter.unusedVariables false
set_option linter.unusedSimpArgs false
namespace Go.Ab
set_option maxHeartbeats 8000000
theorem ent3 (b0 b1 : Blk) (x : List Int) (h0 : b0.live = true) (l0 : locB (List.range 3) b0 = some b0) (n0 : ∀ n ∈ b0.cells.flatMap (nmV 8), n < 3) (h1 : b1.live = true) (l1 : locB (List.range 3) b1 = some b1) (n1 : ∀ n ∈ b1.cells.flatMap (nmV 8), n < 3) : entC 3 [b0, b1, ownB eU8 x] = true := by
  have ok : OkM [b0, b1, ownB eU8 x] := by
    intro b hb
    simp only [List.mem_cons, List.not_mem_nil, or_false] at hb
    rcases hb with rfl | rfl | rfl
    · exact ⟨h0, l0, n0⟩
    · exact ⟨h1, l1, n1⟩
    · exact own_ok eU8 x
  exact ok.ent
theorem s_next_part (x : List Int) (n : Nat) (t : Bool) (m : Int) (h0 : 0 < n) (hn : n < x.length) (hx : x.length < 1000000) : X_impl_Line_next [ptr 0, .int .i64 n] [blk [slO 1 1, nilW, .bool t, .int .i64 m], ⟨[slO 2 x.length], 1, true, true⟩, ownB eU8 x] = some (slQ 2 0 n x.length, [blk [slO 1 1, nilW, .bool t, .int .i64 m], ⟨[slQ 2 n (x.length - n) (x.length - n)], 1, true, true⟩, ownB eU8 x]) := by
  have ix0 : ixaX 1 (slO 1 1) (.int .i64 0) = some (.pointer (some ⟨1, 0, none⟩)) := rfl
  have hmn : min (n : Int) x.length = n := by omega
  have hne : ¬ (n : Int) = x.length := by omega
  have z1 : ∀ b0 b1, slX [b0, b1, ownB eU8 x] 1 (slO 2 x.length) (some (.int .i64 n)) none = some (slQ 2 n (x.length - n) (x.length - n)) := fun b0 b1 => by
    have := sl_own (m := [b0, b1, ownB eU8 x]) (sz := 1) (n := 2) (o := 0) (len := x.length) (c := x.length) (a := n) (b := x.length) (lo := some (.int .i64 (n : Int))) (hi := none) rfl (bnd_nat .i64 n _) rfl (by omega) (by omega) (by omega)
    simpa using this
  have z2 : ∀ b0 b1, slX [b0, b1, ownB eU8 x] 1 (slO 2 x.length) none (some (.int .i64 n)) = some (slQ 2 0 n x.length) := fun b0 b1 => by
    have := sl_own (m := [b0, b1, ownB eU8 x]) (sz := 1) (n := 2) (o := 0) (len := x.length) (c := x.length) (a := 0) (b := n) (lo := none) (hi := some (.int .i64 (n : Int))) rfl rfl (bnd_nat .i64 n _) (by omega) (by omega) (by omega)
    simpa using this
  simp (maxSteps := 400000) -implicitDefEqProofs [X_impl_Line_next, retK_eq, ix0, hmn, hne, z1, z2]
  exact ent3 _ _ x rfl rfl (by simp) rfl rfl (by simp)
theorem s_next_all (x : List Int) (n : Nat) (t : Bool) (m : Int) (h0 : 0 < x.length) (hn : x.length ≤ n) (hx : x.length < 1000000) : X_impl_Line_next [ptr 0, .int .i64 n] [blk [slO 1 1, nilW, .bool t, .int .i64 m], ⟨[slO 2 x.length], 1, true, true⟩, ownB eU8 x] = some (slQ 2 0 x.length x.length, [blk [slQ 1 0 0 0, nilW, .bool t, .int .i64 m], ⟨[slQ 2 0 0 0], 1, true, true⟩, ownB eU8 x]) := by
  have ix0 : ixaX 1 (slO 1 1) (.int .i64 0) = some (.pointer (some ⟨1, 0, none⟩)) := rfl
  have hmn : min (n : Int) x.length = x.length := by omega
  have z1 : ∀ b0 b1, slX [b0, b1, ownB eU8 x] 1 (slO 2 x.length) (some (.int .i64 x.length)) none = some (slQ 2 0 0 0) := fun b0 b1 => by
    have := sl_own_end [b0, b1, ownB eU8 x] (sz := 1) (n := 2) (o := 0) (len := x.length) (c := x.length) (b := x.length) (lo := some (.int .i64 (x.length : Int))) (hi := none) rfl (bnd_nat .i64 x.length _) rfl (by omega) (by omega)
    simpa using this
  have z2 : ∀ b0 b1, slX [b0, b1, ownB eU8 x] 1 (slO 2 x.length) none (some (.int .i64 x.length)) = some (slQ 2 0 x.length x.length) := fun b0 b1 => by
    have := sl_own (m := [b0, b1, ownB eU8 x]) (sz := 1) (n := 2) (o := 0) (len := x.length) (c := x.length) (a := 0) (b := x.length) (lo := none) (hi := some (.int .i64 (x.length : Int))) rfl rfl (bnd_nat .i64 x.length _) (by omega) (by omega) (by omega)
    simpa using this
  have s3 : ∀ b0 (X : List Value) Q, slX (b0 :: ⟨X, 1, true, true⟩ :: Q) 1 (slO 1 1) (some (.int .i64 1)) none = some (slQ 1 0 0 0) := fun b0 X Q => sl_own_end (b0 :: ⟨X, 1, true, true⟩ :: Q) (sz := 1) (n := 1) (o := 0) (len := 1) (c := 1) (b := 1) (lo := some (.int .i64 ((1 : Nat) : Int))) (hi := none) rfl (bnd_nat .i64 1 _) rfl (by omega) (by omega)
  simp (maxSteps := 400000) -implicitDefEqProofs [X_impl_Line_next, retK_eq, ix0, hmn, z1, z2, s3]
  exact ent3 _ _ x rfl rfl (by simp) rfl rfl (by simp)
end Go.Ab
namespace Go.Ab
set_option maxHeartbeats 4000000
@[simp] theorem fz_tuple (k : Nat) (m : Mem) (cs : Array Value) : fz (k + 1) m (.tuple cs) = bo (fun xs => some (.tuple xs.toArray)) (mapO (fz k m) cs.toList) := (rfl)
def bytesOk (l : List Int) : Prop := l.length < 2000000 ∧ ∀ x ∈ l, 0 ≤ x ∧ x < 256
theorem gt_byte {l : List Int} (h : bytesOk l) (j : Nat) : 0 ≤ gt l j ∧ gt l j < 256 := by
  rcases Nat.lt_or_ge j l.length with hj | hj
  · rw [gt_lt hj]
    exact h.2 _ (List.getElem_mem hj)
  · have : gt l j = 0 := by simp [gt, List.getElem?_eq_none hj]
    rw [this]
    omega
theorem src_facts {l : List Int} (hl : bytesOk l) {a : Int} (ha : 0 ≤ a) (hk : l.length ≠ 0) : 0 ≤ a.tmod l.length ∧ a.tmod l.length < l.length ∧ 0 ≤ a.tdiv l.length ∧ a.tdiv l.length ≤ a := by
  have h1 := Int.tmod_nonneg (l.length : Int) ha
  have h2 := Int.tmod_lt_of_pos a (show (0 : Int) < l.length by omega)
  have h3 := Int.tdiv_nonneg ha (show (0 : Int) ≤ l.length by omega)
  have h4 := Int.tdiv_le_self (a := a) l.length ha
  exact ⟨h1, h2, h3, h4⟩
theorem s_lwBig (l : List Int) : X_laws_lwBig [frS eU8 l] [] = some (.bool (decide (1048576 < l.length)), []) := by
  simp -implicitDefEqProofs [X_laws_lwBig, retK_eq]
  omega
theorem bytes_small {l : List Int} (h : ¬ 1048576 < l.length) (hb : ∀ x ∈ l, 0 ≤ x ∧ x < 256) : bytesOk l := ⟨by omega, hb⟩
end Go.Ab
namespace Go.Ab
set_option maxHeartbeats 8000000
abbrev w0 : WayT := ⟨511, 127, 21, 23, 4, 3, 22⟩
theorem hs64 : hs w0 64 = true := by decide
theorem hs32 : hs w0 32 = true := by decide
theorem hs1 : hs w0 1 = true := by decide
theorem way0 : wayF w0 = 0 := by decide
def edOk (l : LnT) : Prop := l.rows = [] ∧ l.t = false ∧ l.n = 0 ∧ l.cur.length ≤ 39 ∧ bOk l.cur
theorem edOk_ln {l : LnT} (h : edOk l) : lnOk l := by
  obtain ⟨rows, cur, t, n⟩ := l
  obtain ⟨h1, h2, h3, h4, h5⟩ := h
  simp only at h1 h2 h3 h4 h5
  subst h1 h2 h3
  exact ⟨by simp, by simp [LnT.size, sumL]; omega, by simp, by simp, fun x hx => by simp at hx, h5⟩
theorem lineF_ed {l : LnT} (h : lnOk l) : lineF l = 0 := by
  obtain ⟨g1, g2, g3, g4, _⟩ := h
  unfold lineF
  rw [if_pos ⟨g1, g2⟩, if_pos (by simp [inB]; omega)]
theorem ask_w0 {l : LnT} (h : lnOk l) : askF w0 l = 0 := by
  unfold askF
  rw [if_pos way0]
  exact lineF_ed h
theorem isS_no {n b : Int} (h : ¬ n = b) : isS n b = false := by
  unfold isS
  simp [h]
theorem ed_letter {l : LnT} (h : edOk l) {y : Int} (y0 : 97 ≤ y) (y1 : y ≤ 122) : edOk (feedS w0 l y).1 := by
  obtain ⟨rows, cur, t, n⟩ := l
  obtain ⟨h1, h2, h3, h4, h5⟩ := h
  simp only at h1 h2 h3 h4 h5
  subst h1 h2 h3
  have e13 : ¬ y = 13 := by omega
  have e10 : ¬ y = 10 := by omega
  unfold feedS coreS canonS takeS
  rw [if_neg (by simp), hs64, hs32, hs1]
  simp only [e13, decide_false, Bool.false_and, Bool.false_eq_true, if_false, isS_no (show ¬ (3 : Int) = y by omega), isS_no (show ¬ (22 : Int) = y by omega), isS_no (show ¬ (127 : Int) = y by omega), isS_no (show ¬ (21 : Int) = y by omega), isS_no (show ¬ (23 : Int) = y by omega), isS_no (show ¬ (4 : Int) = y by omega), Bool.and_false, Bool.or_false, if_true, e10]
  split
  · exact ⟨rfl, rfl, rfl, h4, h5⟩
  · rename_i hz
    have hz : ¬ 40 < cur.length + 2 := by simpa [LnT.size, sumL] using hz
    refine ⟨rfl, rfl, rfl, by simp; omega, fun x hx => ?_⟩
    rcases List.mem_append.1 hx with hx | hx
    · exact h5 x hx
    · simp at hx; omega
theorem ed_erase {l : LnT} (h : edOk l) : edOk (feedS w0 l 127).1 := by
  obtain ⟨rows, cur, t, n⟩ := l
  obtain ⟨h1, h2, h3, h4, h5⟩ := h
  simp only at h1 h2 h3 h4 h5
  subst h1 h2 h3
  obtain ⟨k, hk⟩ := gone_pre w0 cur 127
  have e : (feedS w0 ⟨[], cur, false, 0⟩ 127).1 = ⟨[], (goneS w0 cur 127).1, false, 0⟩ := by
    unfold feedS coreS canonS
    rw [if_neg (by simp), hs64, hs32, hs1]
    rfl
  rw [e, hk]
  exact ⟨rfl, rfl, rfl, by simp; omega, fun x hx => h5 x (List.mem_of_mem_take hx)⟩
theorem ed_end {l : LnT} (h : edOk l) : (feedS w0 l 10).1 = ⟨[l.cur ++ [10]], [], false, 0⟩ := by
  obtain ⟨rows, cur, t, n⟩ := l
  obtain ⟨h1, h2, h3, h4, h5⟩ := h
  simp only at h1 h2 h3 h4 h5
  subst h1 h2 h3
  have hb : endB ⟨[], cur, false, 0⟩ 1 := ⟨by simp, by simp [LnT.size, sumL]; omega⟩
  have e : feedS w0 ⟨[], cur, false, 0⟩ 10 = if endB ⟨[], cur, false, 0⟩ 1 then (⟨[] ++ [cur ++ [10]], [], false, 0⟩, ecS w0 10) else (⟨[], cur, false, 0⟩, []) := by
    unfold feedS coreS canonS
    rw [if_neg (by simp), hs64, hs32, hs1]
    rfl
  rw [e, if_pos hb]
  rfl
theorem s_lwAtK (l : List Int) (hl : bytesOk l) (k n : Int) (k0 : 0 ≤ k) (k1 : k ≤ 1000) (h0 : 2 ≤ n) (h1 : n ≤ 200) : ∃ c : Int, 0 ≤ c ∧ c < n ∧ X_laws_lwAt [frS eU8 l, .int .i64 k, .int .i64 n] [] = some (.int .i64 c, []) := by
  have hn : ¬ n ≤ 1 := by omega
  have hn0 : ¬ n = 0 := by omega
  have h2 : ¬ 200 < n := by omega
  by_cases hk : l.length = 0
  · obtain rfl : l = [] := List.eq_nil_of_length_eq_zero hk
    have w3 : IntKind.i64.wrap (k * 7) = k * 7 := wrap_i64 (by omega) (by omega)
    refine ⟨(k * 7).tmod n, Int.tmod_nonneg _ (by omega), Int.tmod_lt_of_pos _ (by omega), ?_⟩
    simp -implicitDefEqProofs [X_laws_lwAt, retK_eq, hn, hn0, w3]
  obtain ⟨f1, f2, f3, f4⟩ := src_facts hl (a := k) k0 hk
  have b1 := gt_byte hl (k.tmod l.length).toNat
  have hk1 : ¬ (l.length : Int) = 0 := by omega
  have hl0 : ¬ l = [] := fun e => hk (by rw [e]; rfl)
  have hx1 := ixa_frS eU8 (sz := 1) rfl .i64 f1 f2
  have v1 : IntKind.i64.wrap (gt l (k.tmod l.length).toNat) = gt l (k.tmod l.length).toNat := wrap_i64 (by omega) (by omega)
  have v3 : IntKind.i64.wrap (k.tdiv l.length) = k.tdiv l.length := wrap_i64 (by omega) (by omega)
  have v4 : IntKind.i64.wrap (k.tdiv l.length * 3) = k.tdiv l.length * 3 := wrap_i64 (by omega) (by omega)
  have v5 : IntKind.i64.wrap (gt l (k.tmod l.length).toNat + k.tdiv l.length * 3) = gt l (k.tmod l.length).toNat + k.tdiv l.length * 3 := wrap_i64 (by omega) (by omega)
  refine ⟨(gt l (k.tmod l.length).toNat + k.tdiv l.length * 3).tmod n, Int.tmod_nonneg _ (by omega), Int.tmod_lt_of_pos _ (by omega), ?_⟩
  simp (maxSteps := 400000) -implicitDefEqProofs [X_laws_lwAt, retK_eq, hn, hn0, hk, hk1, hl0, hx1, v1, v3, v4, v5, h2]
theorem cvBS_frS (m : Mem) (l : List Int) : cvBS m (frS eU8 l) = some (.string (bstr l)) := by
  show (if (cellsE eU8 l).toArray.size = l.length then ob (bytesOf (cellsE eU8 l)) fun x => some (Value.string ⟨x.toArray⟩) else none) = _
  have hb : bytesOf (cellsE eU8 l) = some (l.map fun n => UInt8.ofNat n.toNat) := by
    induction l with
    | nil => rfl
    | cons x l ih =>
      rw [cellsE_cons]
      show bytesOf (.int .u8 x :: cellsE eU8 l) = _
      unfold bytesOf
      rw [ih]
      rfl
  rw [if_pos (by simp), hb]
  rfl
theorem s_lwSame (a : List Int) : X_laws_lwSame [frS eU8 a, frS eU8 a] [] = some (.bool true, []) := by
  have h := cvBS_frS [] a
  simp -implicitDefEqProofs [X_laws_lwSame, retK_eq, h]
end Go.Ab
namespace Go.Ab
set_option maxHeartbeats 8000000
theorem cn0 : cnB w0 = true := by decide
theorem fz_cell1 (k : Nat) (m : Mem) (v : Value) : fzO (k + 1) m (some ⟨[v], 1, true, true⟩) 0 1 = bo (fun y => some (roS 1 [y])) (fz (k + 1) m v) := by
  unfold fzO fzO.rdB
  simp [mapO]
  cases fz (k + 1) m v <;> rfl
theorem c_clone1 (x : List Int) (t : Bool) (m : Int) (h : x ≠ []) (hx : x.length < 1000000) : X_impl_Line_clone [lnV ⟨[x], [], t, m⟩] [] = some (.agg #[slO 0 1, nilW, .bool t, .int .i64 m], [⟨[slO 1 x.length], 1, true, true⟩, ownB eU8 x]) := by
  have := s_impl_Line_clone ⟨[x], [], t, m⟩ (by simp) (fun y hy => by simp at hy; subst hy; omega) (by simp)
  rw [this]
  have e1 : (elN x) = ⟨[], .ow [] x [] 0 x.length, []⟩ := by unfold elN; rw [if_neg h]
  simp [lnN, lnNM, edN, edM, famB, famX, famM, e1, Pc.val, Pc.mem]
theorem c_clone0 (t : Bool) (m : Int) : X_impl_Line_clone [lnV ⟨[], [], t, m⟩] [] = some (.agg #[slO 0 0, nilW, .bool t, .int .i64 m], [⟨[], 1, true, true⟩]) := by
  have := s_impl_Line_clone ⟨[], [], t, m⟩ (by simp) (fun y hy => by simp at hy) (by simp)
  rw [this]
  simp [lnN, lnNM, edN, edM, famB, famX, famM]
theorem rl_facts (l : LnT) (h : lnOk l) (n : Int) (h0 : 1 ≤ n) (h1 : n ≤ 99) : X_impl_WayFault [wayV w0] [] = some (.int .i64 0, []) ∧ X_impl_LineFault [lnV l] [] = some (.int .i64 0, []) ∧ X_impl_in [.int .i64 n, .int .i64 1, .int .i64 99] [] = some (.bool true, []) := by
  have c1 := s_impl_WayFault w0
  rw [way0] at c1
  have c2 := s_impl_LineFault l (lnOk_small h)
  rw [lineF_ed h] at c2
  have c3 := s_impl_in n 1 99
  have e : inB n 1 99 = true := by simp [inB, h0, h1]
  rw [e] at c3
  exact ⟨c1, c2, c3⟩
theorem rd_pre (x : List Int) (n : Nat) (h : n ≤ x.length) : rdM (some (ownB eU8 x)) 0 n = some (cellsE eU8 (x.take n)) := by
  have := rd_own eU8 (m := [ownB eU8 x]) (n := 0) (a := 0) (k := n) (l := x) rfl (by omega)
  rw [rd_rdM] at this
  simpa using this
theorem s_RL_none (t : Bool) (m n : Int) (h : lnOk ⟨[], [], t, m⟩) (h0 : 1 ≤ n) (h1 : n ≤ 99) : X_impl_ReadLine [wayV w0, lnV ⟨[], [], t, m⟩, .int .i64 n] [] = some (lrV 0 false nilW nilW (slO 0 0) nilW t m, [⟨[], 1, true, true⟩]) := by
  obtain ⟨c1, c2, c3⟩ := rl_facts _ h n h0 h1
  have c4 := s_impl_first3
  have c5 := c_clone0 t m
  simp (maxSteps := 400000) -implicitDefEqProofs [X_impl_ReadLine, retK_eq, c1, c2, c3, c4, s_impl_unless, unl, c5]
theorem s_RL_part (x : List Int) (t : Bool) (m : Int) (n : Nat) (h : lnOk ⟨[x], [], t, m⟩) (h0 : 1 ≤ n) (h1 : n ≤ 99) (hn : n < x.length) (hx : x.length ≤ 40) : X_impl_ReadLine [wayV w0, lnV ⟨[x], [], t, m⟩, .int .i64 n] [] = some (lrV 0 true (slO 0 n) nilW (slO 1 1) nilW t m, [ownB eU8 (x.take n), ⟨[slO 2 (x.length - n)], 1, true, true⟩, ownB eU8 (x.drop n)]) := by
  obtain ⟨c1, c2, c3⟩ := rl_facts _ h n (by omega) (by omega)
  have c4 := s_impl_first3
  have hne : x ≠ [] := fun e => by subst e; simp at hn
  have hde : x.drop n ≠ [] := fun e => by have := congrArg List.length e; simp at this; omega
  have c5 := c_clone1 x t m hne (by omega)
  have c6 := c_clone1 (x.drop n) t m hde (by simp; omega)
  have c6 : X_impl_Line_clone [.agg #[frS eBS [x.drop n], roS 0 [], .bool t, .int .i64 m]] [] = _ := c6
  have c7 := s_next_part x n t m (by omega) hn (by omega)
  have c8 := s_impl_Way_has w0
  rw [cn0] at c8
  obtain ⟨q, hq⟩ : ∃ q, QQ = q + 1 := ⟨QQ - 1, by unfold QQ; omega⟩
  have p1 := fun m' nn o c k o2 c2 => apL_sl (m := m') (sz := 1) (bytes := 1) (n := nn) (o := o) (len := 0) (c := c) (n2 := k) (o2 := o2) (len2 := n) (c2 := c2) (by omega) (by omega)
  have b0' : ∀ m n cs k, apB m (some (ownB eU8 [])) n 0 0 1 cs k = some (slO m.length k, m.set n ⟨cellsE eU8 [], 1, true, false⟩ ++ [⟨cs, 1, true, true⟩]) := fun m n cs k => by
    have := apB_own (E := eU8) (m := m) (l := []) (n := n) (sz := 1) (cs := cs) (k := k) rfl
    simpa [cellsE] using this
  have k0 : (⟨[], 1, true, true⟩ : Blk) = ownB eU8 [] := rfl
  have k1 : (⟨cellsE eU8 (x.take n), 1, true, true⟩ : Blk) = ownB eU8 (x.take n) := rfl
  have r1 := rd_pre x n (by omega)
  have f1 : ∀ k m, fzO (k + 1) m (some (ownB eU8 x)) n (x.length - n) = some (frS eU8 (x.drop n)) := fun k m => by
    have e := fzO_part eU8 k m (l := x) (o := n) (a := n) (len := x.length - n) (by simp) (by omega)
    rw [e, List.take_of_length_le (by simp)]
  have f2 : roS 1 [frS eU8 (x.drop n)] = frS eBS [x.drop n] := rfl
  have hl : (x.take n).length = n := by simp; omega
  simp (maxSteps := 400000) -implicitDefEqProofs [X_impl_ReadLine, L_impl_ReadLine, hq, retK_eq, cutK_eq, c1, c2, c3, c4, s_impl_unless, unl, c5, c6, c7, c8, p1, b0', k0, k1, r1, f1, f2, fz_cell1]
theorem s_RL_all (x : List Int) (t : Bool) (m : Int) (n : Nat) (h : lnOk ⟨[x], [], t, m⟩) (h0 : 1 ≤ x.length) (h1 : n ≤ 99) (hn : x.length ≤ n) (hx : x.length ≤ 40) : X_impl_ReadLine [wayV w0, lnV ⟨[x], [], t, m⟩, .int .i64 n] [] = some (lrV 0 true (slO 0 x.length) nilW (slO 1 0) nilW t m, [ownB eU8 x, ⟨[], 1, true, true⟩]) := by
  obtain ⟨c1, c2, c3⟩ := rl_facts _ h n (by omega) (by omega)
  have c4 := s_impl_first3
  have hne : x ≠ [] := fun e => by subst e; simp at h0
  have c5 := c_clone1 x t m hne (by omega)
  have c6 : X_impl_Line_clone [.agg #[roS 0 [], roS 0 [], .bool t, .int .i64 m]] [] = _ := c_clone0 t m
  have c7 := s_next_all x n t m (by omega) hn (by omega)
  have c8 := s_impl_Way_has w0
  rw [cn0] at c8
  obtain ⟨q, hq⟩ : ∃ q, QQ = q + 1 := ⟨QQ - 1, by unfold QQ; omega⟩
  have p1 := fun m' nn o c k o2 c2 => apL_sl (m := m') (sz := 1) (bytes := 1) (n := nn) (o := o) (len := 0) (c := c) (n2 := k) (o2 := o2) (len2 := x.length) (c2 := c2) (by omega) (by omega)
  have b0' : ∀ m n cs k, apB m (some (ownB eU8 [])) n 0 0 1 cs k = some (slO m.length k, m.set n ⟨cellsE eU8 [], 1, true, false⟩ ++ [⟨cs, 1, true, true⟩]) := fun m n cs k => by
    have := apB_own (E := eU8) (m := m) (l := []) (n := n) (sz := 1) (cs := cs) (k := k) rfl
    simpa [cellsE] using this
  have k0 : (⟨[], 1, true, true⟩ : Blk) = ownB eU8 [] := rfl
  have k1 : (⟨cellsE eU8 x, 1, true, true⟩ : Blk) = ownB eU8 x := rfl
  have r1 := rd_pre x x.length (Nat.le_refl _)
  rw [List.take_length] at r1
  simp (maxSteps := 400000) -implicitDefEqProofs [X_impl_ReadLine, L_impl_ReadLine, hq, retK_eq, cutK_eq, c1, c2, c3, c4, s_impl_unless, unl, c5, c6, c7, c8, p1, b0', k0, k1, r1, fz_00]
theorem icall_of {X : List Value → Mem → Option VM} {args : List Value} {v0 w : Value} {M0 : Mem} (ha : args.all scal2 = true) (hX : X args [] = some (v0, M0)) (hz : fz 64 M0 v0 = some w) (m : Mem) : icall X args m = some (w, m) := by
  rw [icall_eq, if_pos ha, hX, bo_some]
  simp only [hz, bo_some]
theorem z_RL_none (t : Bool) (m n : Int) (h : lnOk ⟨[], [], t, m⟩) (h0 : 1 ≤ n) (h1 : n ≤ 99) (M : Mem) : icall X_impl_ReadLine [wayV w0, lnV ⟨[], [], t, m⟩, .int .i64 n] M = some (lrF 0 false [] [] ⟨[], [], t, m⟩, M) :=
  icall_of (by simp) (s_RL_none t m n h h0 h1) (by simp [fz_00, frS_nil]) M
theorem z_RL_part (x : List Int) (t : Bool) (m : Int) (n : Nat) (h : lnOk ⟨[x], [], t, m⟩) (h0 : 1 ≤ n) (h1 : n ≤ 99) (hn : n < x.length) (hx : x.length ≤ 40) (M : Mem) : icall X_impl_ReadLine [wayV w0, lnV ⟨[x], [], t, m⟩, .int .i64 n] M = some (lrF 0 true (x.take n) [] ⟨[x.drop n], [], t, m⟩, M) := by
  have f1 : ∀ k M, fzO (k + 1) M (some (ownB eU8 (x.take n))) 0 n = some (frS eU8 (x.take n)) := fun k M => by
    have := fzO_own eU8 k M (x.take n)
    rwa [show (x.take n).length = n by simp; omega] at this
  have f2 : ∀ k M, fzO (k + 1) M (some (ownB eU8 (x.drop n))) 0 (x.length - n) = some (frS eU8 (x.drop n)) := fun k M => by
    have := fzO_own eU8 k M (x.drop n)
    rwa [show (x.drop n).length = x.length - n by simp] at this
  have f3 : roS 1 [frS eU8 (x.drop n)] = frS eBS [x.drop n] := rfl
  exact icall_of (by simp) (s_RL_part x t m n h h0 h1 hn hx) (by simp [fz_cell1, f1, f2, f3, frS_nil]) M
theorem z_RL_all (x : List Int) (t : Bool) (m : Int) (n : Nat) (h : lnOk ⟨[x], [], t, m⟩) (h0 : 1 ≤ x.length) (h1 : n ≤ 99) (hn : x.length ≤ n) (hx : x.length ≤ 40) (M : Mem) : icall X_impl_ReadLine [wayV w0, lnV ⟨[x], [], t, m⟩, .int .i64 n] M = some (lrF 0 true x [] ⟨[], [], t, m⟩, M) :=
  icall_of (by simp) (s_RL_all x t m n h h0 h1 hn hx) (by simp [fz_00, frS_nil]) M
end Go.Ab
namespace Go.Ab
set_option maxHeartbeats 8000000
theorem s_impl_first2 (a b : Int) : X_impl_first [frS eI6 [a, b]] [] = some (.int .i64 (if a = 0 then b else a), []) := by
  rw [s_impl_firstV [a, b] (by simp)]
  simp only [firstV]
  by_cases h1 : a = 0 <;> by_cases h2 : b = 0 <;> simp [h1, h2]
@[simp] theorem fz_two6 (k : Nat) (m : Mem) (a b : Int) : fzO (k + 1) m (some ⟨[.int .i64 a, .int .i64 b], 1, true, true⟩) 0 2 = some (frS eI6 [a, b]) := fzO_own eI6 k m [a, b]
abbrev flA (w : WayT) (l : LnT) (y : Int) : List Value := [wayV w, lnV l, .int .u8 y]
theorem s_impl_FL (w : WayT) (l : LnT) (y : Int) (hf : askF w l = 0) (hb : (∀ x ∈ l.rows, bOk x) ∧ bOk l.cur) (y0 : 0 ≤ y) (y1 : y < 256) : ∃ hE eE ps c, oE hE = (feedS w l y).2 ∧ oE eE = (feedS w l y).1.cur ∧ ps.map oE = (feedS w l y).1.rows ∧ X_impl_FeedLine (flA w l y) [] = some (loV hE eE ps c (feedS w l y).1.t (feedS w l y).1.n, loM hE eE ps) := by
  have hok := lnOk_ask hf hb
  have hsm := lnOk_small hok
  have c1 := s_impl_WayFault w
  have c2 := s_impl_LineFault l hsm
  have c3 := s_impl_first2
  have h1 : wayF w = 0 := by
    by_cases h : wayF w = 0
    · exact h
    · unfold askF at hf; rw [if_neg h] at hf; exact absurd hf h
  have h2 : lineF l = 0 := by unfold askF at hf; rwa [if_pos h1] at hf
  have hc : Closed [wB w, blk (lnT l []), zR8, ownB eI6 [0, 0], ownB eU8 [y]] := by
    refine (Closed.nil).appL (L := [wB w, blk (lnT l []), zR8, ownB eI6 [0, 0], ownB eU8 [y]]) fun b hb _ => ?_
    simp only [List.mem_cons, List.not_mem_nil, or_false] at hb
    rcases hb with rfl | rfl | rfl | rfl | rfl <;> exact .leaf rfl
  have hS : fedS w l [y] = feedS w l y := by simp [fedS]
  have hok2 := feedS_ok w hok y0 y1
  obtain ⟨m', rv, ev, hv, r, ix, ne, nh, ps, c, e, O, fr⟩ := d_fed (m := [wB w, blk (lnT l []), zR8, ownB eI6 [0, 0], ownB eU8 [y]]) w l (slO 4 1) [y] hc hok (bOk_one y0 y1) (by simp) rfl (fun m' h => by
    intro i hi
    simp at hi
    subst hi
    have h4 := h 4 (by simp)
    refine ⟨.pointer (some ⟨4, 0, none⟩), rfl, ?_⟩
    rw [ld1_ptr, h4]
    rfl) (sl_low (by simp) _ _ _)
  rw [hS] at e O
  have h2c : m'[2]? = some zR8 := by rw [fr 2 (by simp)]; rfl
  have O2 := O.set 2 (blk (lrC 0 false nilW hv rv ev (feedS w l y).1.t (feedS w l y).1.n)) (by simp)
  obtain ⟨hE, eE, q1, q2, q3, q4⟩ := O2.ret (by have := hok2.1; omega) (flA w l y)
  refine ⟨hE, eE, ps, c, q1, q2, q3, ?_⟩
  rw [← q4]
  have hev := O.es.val
  have hhv := O.hs.val
  have hrv : rv.cells = #[rv] ∧ flat rv = true := by rw [O.rs.val]; exact ⟨rfl, rfl⟩
  have hset : ∀ x : Blk, (m'.set 2 x)[2]? = some x := fun x => List.getElem?_set_self (List.getElem?_eq_some_iff.1 h2c).1
  have e' : dcall X_impl_fed [wayV w, lnV l, slO 4 1] [wB w, blk (lnT l []), zR8, ⟨[.int .i64 0, .int .i64 0], 1, true, true⟩, ⟨[.int .u8 y], 1, true, true⟩] = some (lrV 0 false nilW hv rv ev (feedS w l y).1.t (feedS w l y).1.n, m') := e
  clear q4 O O2 fr e
  generalize feedS w l y = S at *
  simp (maxSteps := 400000) -implicitDefEqProofs [X_impl_FeedLine, c1, c2, c3, h1, h2, e', h2c, hset, hev.1, hev.2, hhv.1, hhv.2, hrv.1, hrv.2]
end Go.Ab
namespace Go.Ab
set_option maxHeartbeats 8000000
end Go.Ab
namespace Go.Ab
set_option maxHeartbeats 8000000
def elS (l : List Int) : El Int := ⟨[], .ow [] l [] 0 l.length, []⟩
@[simp] theorem elS_p (l : List Int) : (elS l).p = .ow [] l [] 0 l.length := (rfl)
end Go.Ab
namespace Go.Ab
set_option maxHeartbeats 8000000
end Go.Ab
namespace Go.Ab
set_option maxHeartbeats 8000000
end Go.Ab
namespace Go.Ab
set_option maxHeartbeats 8000000
end Go.Ab
namespace Go.Ab
set_option maxHeartbeats 8000000
end Go.Ab
namespace Go.Ab
set_option maxHeartbeats 4000000
end Go.Ab
namespace Go.Ab
set_option maxHeartbeats 4000000
end Go.Ab
namespace Go.Ab
set_option maxHeartbeats 4000000
end Go.Ab
namespace Go.Ab
set_option maxHeartbeats 8000000
end Go.Ab
