/- What the functions of the program answer, for all arguments that the theorems name as conditions. -/
import Derived.Test.YtnmjgjedkdmefaaS12Ma
set_option linter.unusedVariables false
set_option linter.unusedSimpArgs false
namespace Go.Ab
set_option maxHeartbeats 4000000
theorem apB_pre {m : Mem} {n : Nat} {c j : List Int} {cs : List Value} {k : Nat} : apB m (some (ownB eU8 (c ++ j))) n 0 c.length 1 cs k = some (slO m.length (c.length + k), m.set n ⟨cellsE eU8 (c ++ j), 1, true, false⟩ ++ [⟨cellsE eU8 c ++ cs, 1, true, true⟩]) := by
  unfold apB
  have hr : fzO.rdB (ownB eU8 (c ++ j)) 0 (c.length * 1) = some (cellsE eU8 c) := by
    have e : (ownB eU8 (c ++ j)).cells = cellsE eU8 c ++ cellsE eU8 j := cellsE_append _ _ _
    have el : (cellsE eU8 c).length = c.length * 1 := by rw [cellsE_len]; rfl
    unfold fzO.rdB
    rw [e]
    split
    · rename_i h
      have : cellsE eU8 c = [] := List.eq_nil_of_length_eq_zero (by rw [el]; exact h)
      rw [this]
    · rw [if_pos ⟨rfl, by rw [List.length_append, el]; omega⟩, List.drop_zero, ← el, List.take_left]
  simp only
  rw [if_pos ⟨rfl, rfl, rfl⟩, hr, ob_some]
  rfl
abbrev ptr0 : Value := .pointer (some ⟨0, 0, none⟩)
theorem u8_app (c : List Int) (b : Int) : (⟨cellsE eU8 c ++ [.int .u8 b], 1, true, true⟩ : Blk) = ownB eU8 (c ++ [b]) := by
  rw [← mk_own2 eU8 _ _ 1 rfl]
  rfl
theorem u8_one (b : Int) : (⟨[.int .u8 b], 1, true, true⟩ : Blk) = ownB eU8 [b] := rfl
theorem rd_one (b : Value) : rdM (some ⟨[b], 1, true, true⟩) 0 1 = some [b] := rfl
theorem f_Echo (w : WayT) (b : Int) (m : Mem) (h : m[0]? = some (wB w)) : fcall X_spec_l11Echo [.pointer (some ⟨0, 0, none⟩), .int .u8 b] m = some (slO m.length (ecS w b).length, m ++ [ownB eU8 (ecS w b)]) := by
  have c2 := s_l11Echo w [] b
  simp [h, c2]
theorem f_Has (w : WayT) (k : Int) (m : Mem) (h : m[0]? = some (wB w)) : fcall X_spec_l10Has [.pointer (some ⟨0, 0, none⟩), .int .i64 k] m = some (.bool (hs w k), m) := by
  have c2 := s_l10HasG w [] k
  simp [h, c2]
theorem f_Hid (b : Int) (m : Mem) : fcall X_spec_l10Hidden [.int .u8 b] m = some (.bool (hid b), m) := by
  have c2 := s_l10Hidden b
  simp [c2]
theorem f_Is (n b : Int) (h0 : 0 ≤ b) (h1 : b < 256) (m : Mem) : fcall X_spec_l11Is [.int .i64 n, .int .u8 b] m = some (.bool (isS n b), m) := by
  have c2 := s_l11Is n b h0 h1
  simp [c2]
def takeF (w : WayT) (R : Option (List (List Int))) (E : EdT) (t : Bool) (n b : Int) : Fm × List Int := if 40 < (lnO R E t n).size + 2 then (.u E, []) else (.t (oE E ++ [b]), ecS w b)
theorem x_Take (w : WayT) (z : Zt) (e1 e2 : Value) (h1 : inert e1 = true) (h2 : inert e2 = true) (R : Option (List (List Int))) (E : EdT) (t : Bool) (n b : Int) (h40 : (oR R).length ≤ 40) (hl : (lnO R E t n).small) (hl1 : (oE E).length + 1 < 1000000000) : X_spec_l11Take [ptr0, pP z 1, .int .u8 b] (fM w z e1 e2 R E t n) = some (slO (fK z R E) (takeF w R E t n b).2.length, (takeF w R E t n b).1.mem w z e1 e2 R E t n [ownB eU8 (takeF w R E t n b).2]) := by
  have c := s_l11SizeG w z e1 e2 R E t n h40 hl
  have hs : (lnO R E t n).size < 1000000000000 := size_le hl h40
  have hw : IntKind.i64.wrap (((lnO R E t n).size : Int) + 2) = ((lnO R E t n).size : Int) + 2 := wrap_i64 (by omega) (by omega)
  have c2 := f_Echo w b
  have n1 : nmV 8 e1 = [] := inert_nm h1
  have n2 : nmV 8 e2 = [] := inert_nm h2
  have r1 : ∀ π, rnV 8 inert π e1 = some e1 := fun π => rnV_p h1
  have r2 : ∀ π, rnV 8 inert π e2 = some e2 := fun π => rnV_p h2
  have hc : (oE E).length < 1000000000 := hl.2.2
  have hc1 : (oE E).length + 1 < 1000000000 := hl1
  have es : (⟨[], 1, true, true⟩ : Blk) = ownB eU8 [] := rfl
  unfold takeF
  generalize hS : (lnO R E t n).size = S at *
  by_cases h3 : 40 < S + 2
  · have h3' : (40 : Int) < (S : Int) + 2 := by omega
    rw [if_pos h3]
    rcases R with _ | r <;> rcases E with _ | ⟨cu, j, m⟩ <;> cases z <;> simp -implicitDefEqProofs [-fcall_eq] at c <;> simp -implicitDefEqProofs [-fcall_eq, fK, Fm.mem, X_spec_l11Take, retK_eq, c, hw, h3', h1, h2, n1, n2, r1, r2, es]
  · have h3' : ¬ (40 : Int) < (S : Int) + 2 := by omega
    have p0 := fun m n2 o2 c2 => apL_nilsl (m := m) (sz := 1) (bytes := 1) (n2 := n2) (o2 := o2) (c2 := c2) (by omega)
    rw [if_neg h3]
    rcases R with _ | r <;> rcases E with _ | ⟨cu, j, m⟩ <;> cases z <;> simp -implicitDefEqProofs [-fcall_eq] at c
    all_goals first
      | (have hc' : cu.length + 1 < 1000000000 := hc1
         have p1 := fun m n o c k o2 c2 => apL_sl (m := m) (sz := 1) (bytes := 1) (n := n) (o := o) (len := cu.length) (c := c) (n2 := k) (o2 := o2) (len2 := 1) (c2 := c2) hc' (by omega)
         simp -implicitDefEqProofs [-fcall_eq, fK, Fm.mem, X_spec_l11Take, retK_eq, c, c2, hw, h3', h1, h2, n1, n2, r1, r2, p1, apB_pre, u8_app, rd_one]; done)
      | simp -implicitDefEqProofs [-fcall_eq, fK, Fm.mem, X_spec_l11Take, retK_eq, c, c2, hw, h3', h1, h2, n1, n2, r1, r2, p0, u8_one, rd_one]
end Go.Ab
namespace Go.Ab
set_option maxHeartbeats 4000000
def cont (b : Int) : Bool := decide (128 ≤ b) && decide (b ≤ 191)
def laF (c : List Int) : Nat → Nat
  | 0 => 0
  | n + 1 => if cont (gt c (n + 1)) then laF c n else n + 1
theorem laF_le (c : List Int) (n : Nat) : laF c n ≤ n := by
  induction n with
  | zero => exact Nat.le_refl _
  | succ n ih =>
    rw [laF]
    split
    · omega
    · exact Nat.le_refl _
theorem l_l11Last (c : List Int) (hc : c.length < 1000000000) (n : Nat) : ∀ (q : Nat), n < c.length → n < q → L_spec_l11Last 0 q 0 [frS eU8 c, .int .i64 n] [] = some (.int .i64 (laF c n), []) := by
  induction n with
  | zero =>
    intro q hn hq
    obtain ⟨q, rfl⟩ : ∃ n, q = n + 1 := ⟨q - 1, by omega⟩
    simp -implicitDefEqProofs [L_spec_l11Last, retK_eq, laF]
  | succ n ih =>
    intro q hn hq
    obtain ⟨q, rfl⟩ : ∃ n, q = n + 1 := ⟨q - 1, by omega⟩
    have h := ih q (by omega) (by omega)
    have hx := ixa_frS eU8 (sz := 1) rfl .i64 (l := c) (j := ((n : Int) + 1)) (by omega) (by omega)
    have e : ((n : Int) + 1).toNat = n + 1 := by omega
    rw [e] at hx
    have hw : IntKind.i64.wrap ((n : Int) + 1 - 1) = n := by
      rw [show (n : Int) + 1 - 1 = n by omega]
      exact wrap_i64 (by omega) (by omega)
    have hw2 : IntKind.i64.wrap (n : Int) = n := wrap_i64 (by omega) (by omega)
    have hp : (0 : Int) < (n : Int) + 1 := by omega
    rw [laF]
    by_cases h1 : (128 : Int) ≤ gt c (n + 1)
    · by_cases h2 : gt c (n + 1) ≤ 191
      · simp -implicitDefEqProofs [L_spec_l11Last, retK_eq, cutK_eq, cont, hx, hw, hw2, hp, h1, h2, h]
      · simp -implicitDefEqProofs [L_spec_l11Last, retK_eq, cutK_eq, cont, hx, hw, hw2, hp, h1, h2, h]
    · simp -implicitDefEqProofs [L_spec_l11Last, retK_eq, cutK_eq, cont, hx, hw, hw2, hp, h1, h]
abbrev laE (c : List Int) : Nat := laF c (c.length - 1)
theorem s_l11Last (c : List Int) (hc : c.length < 1000000000) (h0 : c ≠ []) : X_spec_l11Last [frS eU8 c] [] = some (.int .i64 (laE c), []) := by
  have hp := List.length_pos_iff.2 h0
  have h := l_l11Last c hc (c.length - 1) QQ (by omega) (by unfold QQ; omega)
  have hw : IntKind.i64.wrap ((c.length : Int) - 1) = ((c.length - 1 : Nat) : Int) := by
    rw [show (c.length : Int) - 1 = ((c.length - 1 : Nat) : Int) by omega]
    exact wrap_i64 (by omega) (by omega)
  simp -implicitDefEqProofs [X_spec_l11Last, retK_eq, cutK_eq, hw, h]
theorem laE_lt {c : List Int} (h : c ≠ []) : laE c < c.length := by
  have : laE c ≤ c.length - 1 := laF_le c (c.length - 1)
  have := List.length_pos_iff.2 h
  omega
def drO (w : WayT) (c : List Int) : List Int := if !(hs w 2) || !(hs w 4) then [] else if hs w 16 && hid (gt c (laE c)) then [8, 32, 8, 8, 32, 8] else [8, 32, 8]
theorem x_Drop (w : WayT) (z : Zt) (e1 e2 : Value) (h1 : inert e1 = true) (h2 : inert e2 = true) (R : Option (List (List Int))) (c j : List Int) (m : Nat) (t : Bool) (n : Int) (hc : c.length < 1000000000) (h0 : c ≠ []) (hm : c.length ≤ m) : X_spec_l11Drop [ptr0, pP z 1] (fM w z e1 e2 R (some (c, j, m)) t n) = some (slO (fK z R (some (c, j, m))) (drO w c).length, (Fm.u (some (c.take (laE c), c.drop (laE c) ++ j, m))).mem w z e1 e2 R (some (c, j, m)) t n [ownB eU8 (drO w c)]) := by
  have n1 : nmV 8 e1 = [] := inert_nm h1
  have n2 : nmV 8 e2 = [] := inert_nm h2
  have r1 : ∀ π, rnV 8 inert π e1 = some e1 := fun π => rnV_p h1
  have r2 : ∀ π, rnV 8 inert π e2 = some e2 := fun π => rnV_p h2
  have hlt := laE_lt h0
  have c1 := s_l11Last c hc h0
  have hf : ∀ m, fcall X_spec_l11Last [slQ (zN z + (rB R).length) 0 c.length m] (fM w z e1 e2 R (some (c, j, m)) t n) = some (.int .i64 (laE c), fM w z e1 e2 R (some (c, j, m)) t n) := fun m => by
    rcases R with _ | r <;> cases z <;> simp [hE, c1]
  have hf := hf m
  have f1 := f_Has w
  have f2 := f_Hid (gt c (laE c))
  have es : (⟨[], 1, true, true⟩ : Blk) = ownB eU8 [] := rfl
  have e3 : (⟨[.int .u8 8, .int .u8 32, .int .u8 8], 1, true, true⟩ : Blk) = ownB eU8 [8, 32, 8] := rfl
  have e6 : (⟨[.int .u8 8, .int .u8 32, .int .u8 8, .int .u8 8, .int .u8 32, .int .u8 8], 1, true, true⟩ : Blk) = ownB eU8 [8, 32, 8, 8, 32, 8] := rfl
  have hx := fun n o cc => ixa_sl (sz := 1) .i64 (n := n) (o := o) (len := c.length) (c := cc) (j := (laE c : Int)) (by omega) (by omega)
  simp only [Int.toNat_natCast] at hx
  have hcell : (cellsE eU8 (c ++ j))[laE c]? = some (.int .u8 (gt c (laE c))) := by
    have := cell_at eU8 (l := c ++ j) (i := laE c) (o := 0) (by simp; omega) (by decide)
    rw [show gt (c ++ j) (laE c) = gt c (laE c) by simp [gt, List.getElem?_append_left hlt]] at this
    simpa using this
  have hsl : ∀ mm n, esOf mm n = some 1 → slX mm 1 (slQ n 0 c.length m) none (some (.int .i64 (laE c))) = some (slQ n 0 (laE c) m) := fun mm n he => by
    have := sl_own mm (sz := 1) (n := n) (o := 0) (len := c.length) (c := m) (a := 0) (b := laE c) (lo := none) (hi := some (.int .i64 (laE c))) he rfl (bnd_nat .i64 (laE c) _) (by omega) (by omega) (by have := List.length_pos_iff.2 h0; omega)
    simpa using this
  have hlen : (List.take (laE c) c).length = laE c := by simp; omega
  have hap : c.take (laE c) ++ (c.drop (laE c) ++ j) = c ++ j := by rw [← List.append_assoc, List.take_append_drop]
  unfold drO
  generalize hb : hid (gt c (laE c)) = bh at *
  generalize gt c (laE c) = gc at *
  generalize laE c = K at *
  rcases R with _ | r <;> cases z <;> simp -implicitDefEqProofs [-fcall_eq] at hf <;> cases b2 : hs w 2 <;> cases b4 : hs w 4 <;> cases b16 : hs w 16 <;> cases bh <;> simp -implicitDefEqProofs [-fcall_eq, fK, Fm.mem, X_spec_l11Drop, retK_eq, hf, f1, f2, hx, hcell, hsl, esOf, b2, b4, b16, h1, h2, n1, n2, r1, r2, es, e3, e6, hlen, hap]
end Go.Ab
namespace Go.Ab
set_option maxHeartbeats 4000000
def dwS (w : WayT) (p : Int → Bool) : Nat → List Int → List Int × List Int
  | 0, c => (c, [])
  | n + 1, c => if c ≠ [] ∧ p (gt c (c.length - 1)) = true then ((dwS w p n (c.take (laE c))).1, drO w c ++ (dwS w p n (c.take (laE c))).2) else (c, [])
theorem drO_len (w : WayT) (c : List Int) : (drO w c).length ≤ 6 := by
  unfold drO
  split
  · simp
  · split <;> simp
theorem dwS_len (w : WayT) (p : Int → Bool) : ∀ (n : Nat) (c : List Int), (dwS w p n c).1.length ≤ c.length ∧ (dwS w p n c).2.length ≤ 6 * n
  | 0, c => by simp [dwS]
  | n + 1, c => by
    rw [dwS]
    split
    · have := dwS_len w p n (c.take (laE c))
      have h2 := drO_len w c
      simp only [List.length_append]
      refine ⟨Nat.le_trans this.1 (by simp; omega), by omega⟩
    · simp
theorem dwS_stop (w : WayT) (p : Int → Bool) (n : Nat) (c : List Int) (h : ¬ (c ≠ [] ∧ p (gt c (c.length - 1)) = true)) : dwS w p n c = (c, []) := by
  cases n with
  | zero => rfl
  | succ n => rw [dwS, if_neg h]
theorem rc_drop (w : WayT) (z : Zt) (e1 e2 : Value) (h1 : inert e1 = true) (h2 : inert e2 = true) (R : Option (List (List Int))) (c j q : List Int) (m : Nat) (t : Bool) (n : Int) (hc : c.length < 1000000000) (h0 : c ≠ []) (hm : c.length ≤ m) : rcall X_spec_l11Drop [ptr0, pP z 1] (fM w z e1 e2 R (some (c, j, m)) t n ++ [ownB eU8 q]) = some (slO (fK z R (some (c, j, m)) + 1) (drO w c).length, fM w z e1 e2 R (some (c.take (laE c), c.drop (laE c) ++ j, m)) t n ++ [ownB eU8 q, ownB eU8 (drO w c)]) := by
  have hX := x_Drop w z e1 e2 h1 h2 R c j m t n hc h0 hm
  have n1 : nmV 8 e1 = [] := inert_nm h1
  have n2 : nmV 8 e2 = [] := inert_nm h2
  have r1 : ∀ π, rnV 8 inert π e1 = some e1 := fun π => rnV_p h1
  have r2 : ∀ π, rnV 8 inert π e2 = some e2 := fun π => rnV_p h2
  have hap : c.take (laE c) ++ (c.drop (laE c) ++ j) = c ++ j := by rw [← List.append_assoc, List.take_append_drop]
  rcases R with _ | r <;> cases z <;> simp -implicitDefEqProofs [fK, Fm.mem, hap] at hX <;> simp -implicitDefEqProofs [fK, Fm.mem, hX, hap, h1, h2, n1, n2, r1, r2]
theorem cut_w (w : WayT) (z : Zt) (e1 e2 : Value) (h1 : inert e1 = true) (h2 : inert e2 = true) (R : Option (List (List Int))) (E : EdT) (t : Bool) (n : Int) (d x : Blk) (o : List Int) (r : List Value) (J : List Value → Mem → Option VM) : cutK (fK z R E) (fM w z e1 e2 R E t n ++ [d, x, ownB eU8 o]) (ptr0 :: pP z 1 :: r) [ptr0, pP z 1, slO (fK z R E + 2) o.length] J = J [ptr0, pP z 1, slO (fK z R E) o.length] (fM w z e1 e2 R E t n ++ [ownB eU8 o]) := by
  have n1 : nmV 8 e1 = [] := inert_nm h1
  have n2 : nmV 8 e2 = [] := inert_nm h2
  have r1 : ∀ π, rnV 8 inert π e1 = some e1 := fun π => rnV_p h1
  have r2 : ∀ π, rnV 8 inert π e2 = some e2 := fun π => rnV_p h2
  rcases R with _ | r <;> rcases E with _ | ⟨c, j, m⟩ <;> cases z <;> simp -implicitDefEqProofs [cutK_eq, fK, h1, h2, n1, n2, r1, r2]
theorem cut_w0 (w : WayT) (z : Zt) (e1 e2 : Value) (h1 : inert e1 = true) (h2 : inert e2 = true) (R : Option (List (List Int))) (E : EdT) (t : Bool) (n : Int) (o : List Int) (r : List Value) (J : List Value → Mem → Option VM) : cutK (fK z R E) (fM w z e1 e2 R E t n ++ [ownB eU8 o]) (ptr0 :: pP z 1 :: r) [ptr0, pP z 1, slO (fK z R E) o.length] J = J [ptr0, pP z 1, slO (fK z R E) o.length] (fM w z e1 e2 R E t n ++ [ownB eU8 o]) := by
  have n1 : nmV 8 e1 = [] := inert_nm h1
  have n2 : nmV 8 e2 = [] := inert_nm h2
  have r1 : ∀ π, rnV 8 inert π e1 = some e1 := fun π => rnV_p h1
  have r2 : ∀ π, rnV 8 inert π e2 = some e2 := fun π => rnV_p h2
  rcases R with _ | r <;> rcases E with _ | ⟨c, j, m⟩ <;> cases z <;> simp -implicitDefEqProofs [cutK_eq, fK, h1, h2, n1, n2, r1, r2]
theorem ret_w0 (w : WayT) (z : Zt) (e1 e2 : Value) (h1 : inert e1 = true) (h2 : inert e2 = true) (R : Option (List (List Int))) (E : EdT) (t : Bool) (n : Int) (o : List Int) (r : List Value) : retK (fK z R E) (fM w z e1 e2 R E t n ++ [ownB eU8 o]) (ptr0 :: pP z 1 :: r) (slO (fK z R E) o.length) = some (slO (fK z R E) o.length, fM w z e1 e2 R E t n ++ [ownB eU8 o]) := by
  have := rt_form w z e1 e2 h1 h2 R E t n o (.u E) (okE_self E) r
  simp only [Fm.mem, Fm.rv, Fm.ev, Fm.old, Fm.new, List.append_nil] at this
  exact this
theorem rd_all (x : List Int) : rdM (some (ownB eU8 x)) 0 (x.length * 1) = some (cellsE eU8 x) := by
  have := rd_own eU8 (m := [ownB eU8 x]) (n := 0) (a := 0) (k := x.length) (l := x) rfl (by simp)
  rw [rd_rdM] at this
  simp at this ⊢
theorem ap_gen (M : Mem) (K : Nat) (hl : M.length = K) (o x : List Int) (ho : o.length + x.length < 1000000000) : apL (M ++ [ownB eU8 o, ownB eU8 x]) 1 1 (slO K o.length) (slO (K + 1) x.length) = some (slO (K + 2) (o ++ x).length, M ++ [⟨cellsE eU8 o, 1, true, false⟩, ownB eU8 x, ownB eU8 (o ++ x)]) := by
  subst hl
  have g0 : (M ++ [ownB eU8 o, ownB eU8 x])[M.length]? = some (ownB eU8 o) := by simp
  have g1 : (M ++ [ownB eU8 o, ownB eU8 x])[M.length + 1]? = some (ownB eU8 x) := by simp
  rw [apL_sl ho (by omega), g1, rd_all x, bo_some, g0, apB_own (E := eU8) (sz := 1) rfl]
  have hset : (M ++ [ownB eU8 o, ownB eU8 x]).set M.length ⟨cellsE eU8 o, eU8.sz, true, false⟩ = M ++ [⟨cellsE eU8 o, 1, true, false⟩, ownB eU8 x] := by
    rw [List.set_append_right _ _ (by omega), Nat.sub_self]
    rfl
  rw [hset, ← cellsE_append]
  simp
end Go.Ab
namespace Go.Ab
set_option maxHeartbeats 4000000
theorem last_facts (w : WayT) (z : Zt) (e1 e2 : Value) (R : Option (List (List Int))) (c j : List Int) (m : Nat) (t : Bool) (n : Int) (Q : Mem) (h0 : c ≠ []) (hc : c.length < 1000000000) : ∃ pp, ixaX 1 (slQ (zN z + (rB R).length) 0 c.length m) (.int .i64 ((c.length - 1 : Nat) : Int)) = some pp ∧ ld1 (fM w z e1 e2 R (some (c, j, m)) t n ++ Q) pp = some (.int .u8 (gt c (c.length - 1))) := by
  have hp := List.length_pos_iff.2 h0
  have hx := ixa_sl (sz := 1) .i64 (n := zN z + (rB R).length) (o := 0) (len := c.length) (c := m) (j := ((c.length - 1 : Nat) : Int)) (by omega) (by omega)
  simp only [Int.toNat_natCast] at hx
  have hcell : (cellsE eU8 (c ++ j))[c.length - 1]? = some (.int .u8 (gt c (c.length - 1))) := by
    have := cell_at eU8 (l := c ++ j) (i := c.length - 1) (o := 0) (by simp; omega) (by decide)
    rw [show gt (c ++ j) (c.length - 1) = gt c (c.length - 1) by simp [gt, List.getElem?_append_left (show c.length - 1 < c.length by omega)]] at this
    simpa using this
  refine ⟨_, hx, ?_⟩
  rcases R with _ | r <;> cases z <;> simp [hcell]
theorem l_Word1 (w : WayT) (z : Zt) (e1 e2 : Value) (h1 : inert e1 = true) (h2 : inert e2 = true) (R : Option (List (List Int))) (m : Nat) (t : Bool) (n : Int) (N : Nat) : ∀ (c j out : List Int) (q : Nat), c.length ≤ N → N < 1000 → c.length ≤ m → N < q → out.length + 6 * N < 1000000 → ∃ j', (dwS w (fun b => decide (¬ b = 32)) N c).1 ++ j' = c ++ j ∧ L_spec_l11Word (fK z R (some (c, j, m))) q 1 [ptr0, pP z 1, slO (fK z R (some (c, j, m))) out.length] (fM w z e1 e2 R (some (c, j, m)) t n ++ [ownB eU8 out]) = some (slO (fK z R (some (c, j, m))) (out ++ (dwS w (fun b => decide (¬ b = 32)) N c).2).length, fM w z e1 e2 R (some ((dwS w (fun b => decide (¬ b = 32)) N c).1, j', m)) t n ++ [ownB eU8 (out ++ (dwS w (fun b => decide (¬ b = 32)) N c).2)]) := by
  induction N with
  | zero =>
    intro c j out q hN hN2 hm hq ho
    obtain ⟨q, rfl⟩ : ∃ n, q = n + 1 := ⟨q - 1, by omega⟩
    obtain rfl : c = [] := List.eq_nil_of_length_eq_zero (by omega)
    have hret := ret_w0 w z e1 e2 h1 h2 R (some ([], j, m)) t n out []
    have hld : ld1 (fM w z e1 e2 R (some ([], j, m)) t n ++ [ownB eU8 out]) (.pointer (some ⟨1, pO z + 1, none⟩)) = some (slQ (zN z + (rB R).length) 0 0 m) := by rcases R with _ | r <;> cases z <;> simp
    refine ⟨j, rfl, ?_⟩
    simp only [dwS, List.append_nil]
    generalize fM w z e1 e2 R (some ([], j, m)) t n ++ [ownB eU8 out] = M at *
    simp -implicitDefEqProofs [-pO, -pP, -rcall_eq, L_spec_l11Word, hld, hret]
  | succ N ih =>
    intro c j out q hN hN2 hm hq ho
    obtain ⟨q, rfl⟩ : ∃ n, q = n + 1 := ⟨q - 1, by omega⟩
    by_cases h0 : c = []
    · subst h0
      have hret := ret_w0 w z e1 e2 h1 h2 R (some ([], j, m)) t n out []
      have hcut := cut_w0 w z e1 e2 h1 h2 R (some ([], j, m)) t n out []
      have hld : ld1 (fM w z e1 e2 R (some ([], j, m)) t n ++ [ownB eU8 out]) (.pointer (some ⟨1, pO z + 1, none⟩)) = some (slQ (zN z + (rB R).length) 0 0 m) := by rcases R with _ | r <;> cases z <;> simp
      refine ⟨j, by rw [dwS_stop _ _ _ _ (by simp)], ?_⟩
      rw [dwS_stop _ _ _ _ (by simp), List.append_nil]
      generalize fM w z e1 e2 R (some ([], j, m)) t n ++ [ownB eU8 out] = M at *
      simp -implicitDefEqProofs [-pO, -pP, -rcall_eq, L_spec_l11Word, hld, hret, hcut]
    · have hp := List.length_pos_iff.2 h0
      obtain ⟨pp, hx, hlp⟩ := last_facts w z e1 e2 R c j m t n [ownB eU8 out] h0 (by omega)
      have hld : ld1 (fM w z e1 e2 R (some (c, j, m)) t n ++ [ownB eU8 out]) (.pointer (some ⟨1, pO z + 1, none⟩)) = some (slQ (zN z + (rB R).length) 0 c.length m) := by rcases R with _ | r <;> cases z <;> simp
      have hw : IntKind.i64.wrap ((c.length : Int) - 1) = ((c.length - 1 : Nat) : Int) := by
        rw [show (c.length : Int) - 1 = ((c.length - 1 : Nat) : Int) by omega]
        exact wrap_i64 (by omega) (by omega)
      have hpos : (0 : Int) < c.length := by omega
      by_cases h3 : ¬ gt c (c.length - 1) = 32
      · have hd := rc_drop w z e1 e2 h1 h2 R c j out m t n (by omega) h0 hm
        have hdl := drO_len w c
        have hlt := laE_lt h0
        have hl1 : (fM w z e1 e2 R (some (c.take (laE c), c.drop (laE c) ++ j, m)) t n).length = fK z R (some (c, j, m)) := fM_len ..
        have hap := ap_gen _ _ hl1 out (drO w c) (by omega)
        have hcut : ∀ J, cutK (fK z R (some (c, j, m))) (fM w z e1 e2 R (some (c.take (laE c), c.drop (laE c) ++ j, m)) t n ++ [⟨cellsE eU8 out, 1, true, false⟩, ownB eU8 (drO w c), ownB eU8 (out ++ drO w c)]) [ptr0, pP z 1] [ptr0, pP z 1, slO (fK z R (some (c, j, m)) + 2) (out ++ drO w c).length] J = J [ptr0, pP z 1, slO (fK z R (some (c, j, m))) (out ++ drO w c).length] (fM w z e1 e2 R (some (c.take (laE c), c.drop (laE c) ++ j, m)) t n ++ [ownB eU8 (out ++ drO w c)]) := fun J => cut_w w z e1 e2 h1 h2 R (some (c.take (laE c), c.drop (laE c) ++ j, m)) t n _ _ _ [] J
        obtain ⟨j', g1, g2⟩ := ih (c.take (laE c)) (c.drop (laE c) ++ j) (out ++ drO w c) q (by simp; omega) (by omega) (by simp; omega) (by omega) (by simp; omega)
        have g2 : L_spec_l11Word (fK z R (some (c, j, m))) q 1 [ptr0, pP z 1, slO (fK z R (some (c, j, m))) (out ++ drO w c).length] (fM w z e1 e2 R (some (c.take (laE c), c.drop (laE c) ++ j, m)) t n ++ [ownB eU8 (out ++ drO w c)]) = _ := g2
        have hb : c ≠ [] ∧ (fun b => decide (¬ b = 32)) (gt c (c.length - 1)) = true := ⟨h0, by simpa using h3⟩
        refine ⟨j', ?_, ?_⟩
        · rw [dwS, if_pos hb, g1, ← List.append_assoc, List.take_append_drop]
        · rw [dwS, if_pos hb]
          simp only [← List.append_assoc]
          refine Eq.trans ?_ g2
          generalize fM w z e1 e2 R (some (c.take (laE c), c.drop (laE c) ++ j, m)) t n ++ [ownB eU8 (out ++ drO w c)] = M3 at *
          generalize fM w z e1 e2 R (some (c.take (laE c), c.drop (laE c) ++ j, m)) t n ++ [⟨cellsE eU8 out, 1, true, false⟩, ownB eU8 (drO w c), ownB eU8 (out ++ drO w c)] = M2 at *
          generalize fM w z e1 e2 R (some (c.take (laE c), c.drop (laE c) ++ j, m)) t n ++ [ownB eU8 out, ownB eU8 (drO w c)] = M1 at *
          generalize fM w z e1 e2 R (some (c, j, m)) t n ++ [ownB eU8 out] = M at *
          generalize (out ++ drO w c).length = L at *
          generalize hRB : zN z + (rB R).length = RB at *
          generalize hKK : fK z R (some (c, j, m)) = K at *
          generalize c.length - 1 = cl at *
          simp -implicitDefEqProofs [-pO, -pP, -rcall_eq, L_spec_l11Word, hld, hp, hpos, hw, hx, hlp, h3, hd, hap, hcut]
      · have hb : ¬ (c ≠ [] ∧ (fun b => decide (¬ b = 32)) (gt c (c.length - 1)) = true) := fun h => h3 (by simpa using h.2)
        have hret := ret_w0 w z e1 e2 h1 h2 R (some (c, j, m)) t n out []
        have hcut := cut_w0 w z e1 e2 h1 h2 R (some (c, j, m)) t n out []
        refine ⟨j, by rw [dwS_stop _ _ _ _ hb], ?_⟩
        rw [dwS_stop _ _ _ _ hb, List.append_nil]
        generalize fM w z e1 e2 R (some (c, j, m)) t n ++ [ownB eU8 out] = M at *
        generalize hRB : zN z + (rB R).length = RB at *
        generalize hKK : fK z R (some (c, j, m)) = K at *
        generalize c.length - 1 = cl at *
        simp -implicitDefEqProofs [-pO, -pP, -rcall_eq, L_spec_l11Word, hld, hp, hpos, hw, hx, hlp, h3, hret, hcut]
end Go.Ab
namespace Go.Ab
set_option maxHeartbeats 4000000
theorem l_Word0 (w : WayT) (z : Zt) (e1 e2 : Value) (h1 : inert e1 = true) (h2 : inert e2 = true) (R : Option (List (List Int))) (m : Nat) (t : Bool) (n : Int) (N : Nat) : ∀ (c j out : List Int) (q : Nat), c.length ≤ N → N < 1000 → c.length ≤ m → N < q → out.length + 6 * N < 1000000 → ∃ j', (dwS w (fun b => decide (b = 32)) N c).1 ++ j' = c ++ j ∧ ∃ q', q ≤ q' + N + 1 ∧ L_spec_l11Word (fK z R (some (c, j, m))) q 0 [ptr0, pP z 1, slO (fK z R (some (c, j, m))) out.length] (fM w z e1 e2 R (some (c, j, m)) t n ++ [ownB eU8 out]) = L_spec_l11Word (fK z R (some (c, j, m))) q' 1 [ptr0, pP z 1, slO (fK z R (some (c, j, m))) (out ++ (dwS w (fun b => decide (b = 32)) N c).2).length] (fM w z e1 e2 R (some ((dwS w (fun b => decide (b = 32)) N c).1, j', m)) t n ++ [ownB eU8 (out ++ (dwS w (fun b => decide (b = 32)) N c).2)]) := by
  induction N with
  | zero =>
    intro c j out q hN hN2 hm hq ho
    obtain ⟨q, rfl⟩ : ∃ n, q = n + 1 := ⟨q - 1, by omega⟩
    obtain rfl : c = [] := List.eq_nil_of_length_eq_zero (by omega)
    have hcut := cut_w0 w z e1 e2 h1 h2 R (some ([], j, m)) t n out []
    have hld : ld1 (fM w z e1 e2 R (some ([], j, m)) t n ++ [ownB eU8 out]) (.pointer (some ⟨1, pO z + 1, none⟩)) = some (slQ (zN z + (rB R).length) 0 0 m) := by rcases R with _ | r <;> cases z <;> simp
    refine ⟨j, rfl, q, by omega, ?_⟩
    simp only [dwS, List.append_nil]
    generalize fM w z e1 e2 R (some ([], j, m)) t n ++ [ownB eU8 out] = M at *
    simp -implicitDefEqProofs [-pO, -pP, -rcall_eq, L_spec_l11Word, hld, hcut]
  | succ N ih =>
    intro c j out q hN hN2 hm hq ho
    obtain ⟨q, rfl⟩ : ∃ n, q = n + 1 := ⟨q - 1, by omega⟩
    by_cases h0 : c = []
    · subst h0
      have hret := ret_w0 w z e1 e2 h1 h2 R (some ([], j, m)) t n out []
      have hcut := cut_w0 w z e1 e2 h1 h2 R (some ([], j, m)) t n out []
      have hld : ld1 (fM w z e1 e2 R (some ([], j, m)) t n ++ [ownB eU8 out]) (.pointer (some ⟨1, pO z + 1, none⟩)) = some (slQ (zN z + (rB R).length) 0 0 m) := by rcases R with _ | r <;> cases z <;> simp
      refine ⟨j, by rw [dwS_stop _ _ _ _ (by simp)], q, by omega, ?_⟩
      rw [dwS_stop _ _ _ _ (by simp), List.append_nil]
      generalize fM w z e1 e2 R (some ([], j, m)) t n ++ [ownB eU8 out] = M at *
      simp -implicitDefEqProofs [-pO, -pP, -rcall_eq, L_spec_l11Word, hld, hret, hcut]
    · have hp := List.length_pos_iff.2 h0
      obtain ⟨pp, hx, hlp⟩ := last_facts w z e1 e2 R c j m t n [ownB eU8 out] h0 (by omega)
      have hld : ld1 (fM w z e1 e2 R (some (c, j, m)) t n ++ [ownB eU8 out]) (.pointer (some ⟨1, pO z + 1, none⟩)) = some (slQ (zN z + (rB R).length) 0 c.length m) := by rcases R with _ | r <;> cases z <;> simp
      have hw : IntKind.i64.wrap ((c.length : Int) - 1) = ((c.length - 1 : Nat) : Int) := by
        rw [show (c.length : Int) - 1 = ((c.length - 1 : Nat) : Int) by omega]
        exact wrap_i64 (by omega) (by omega)
      have hpos : (0 : Int) < c.length := by omega
      by_cases h3 : gt c (c.length - 1) = 32
      · have hd := rc_drop w z e1 e2 h1 h2 R c j out m t n (by omega) h0 hm
        have hdl := drO_len w c
        have hlt := laE_lt h0
        have hl1 : (fM w z e1 e2 R (some (c.take (laE c), c.drop (laE c) ++ j, m)) t n).length = fK z R (some (c, j, m)) := fM_len ..
        have hap := ap_gen _ _ hl1 out (drO w c) (by omega)
        have hcut : ∀ J, cutK (fK z R (some (c, j, m))) (fM w z e1 e2 R (some (c.take (laE c), c.drop (laE c) ++ j, m)) t n ++ [⟨cellsE eU8 out, 1, true, false⟩, ownB eU8 (drO w c), ownB eU8 (out ++ drO w c)]) [ptr0, pP z 1] [ptr0, pP z 1, slO (fK z R (some (c, j, m)) + 2) (out ++ drO w c).length] J = J [ptr0, pP z 1, slO (fK z R (some (c, j, m))) (out ++ drO w c).length] (fM w z e1 e2 R (some (c.take (laE c), c.drop (laE c) ++ j, m)) t n ++ [ownB eU8 (out ++ drO w c)]) := fun J => cut_w w z e1 e2 h1 h2 R (some (c.take (laE c), c.drop (laE c) ++ j, m)) t n _ _ _ [] J
        obtain ⟨j', g1, q', g3, g2⟩ := ih (c.take (laE c)) (c.drop (laE c) ++ j) (out ++ drO w c) q (by simp; omega) (by omega) (by simp; omega) (by omega) (by simp; omega)
        have g2 : L_spec_l11Word (fK z R (some (c, j, m))) q 0 [ptr0, pP z 1, slO (fK z R (some (c, j, m))) (out ++ drO w c).length] (fM w z e1 e2 R (some (c.take (laE c), c.drop (laE c) ++ j, m)) t n ++ [ownB eU8 (out ++ drO w c)]) = _ := g2
        have hb : c ≠ [] ∧ (fun b => decide (b = 32)) (gt c (c.length - 1)) = true := ⟨h0, by simpa using h3⟩
        refine ⟨j', ?_, q', by omega, ?_⟩
        · rw [dwS, if_pos hb, g1, ← List.append_assoc, List.take_append_drop]
        · rw [dwS, if_pos hb]
          simp only [← List.append_assoc]
          refine Eq.trans ?_ g2
          generalize fM w z e1 e2 R (some (c.take (laE c), c.drop (laE c) ++ j, m)) t n ++ [ownB eU8 (out ++ drO w c)] = M3 at *
          generalize fM w z e1 e2 R (some (c.take (laE c), c.drop (laE c) ++ j, m)) t n ++ [⟨cellsE eU8 out, 1, true, false⟩, ownB eU8 (drO w c), ownB eU8 (out ++ drO w c)] = M2 at *
          generalize fM w z e1 e2 R (some (c.take (laE c), c.drop (laE c) ++ j, m)) t n ++ [ownB eU8 out, ownB eU8 (drO w c)] = M1 at *
          generalize fM w z e1 e2 R (some (c, j, m)) t n ++ [ownB eU8 out] = M at *
          generalize (out ++ drO w c).length = L at *
          generalize hRB : zN z + (rB R).length = RB at *
          generalize hKK : fK z R (some (c, j, m)) = K at *
          generalize c.length - 1 = cl at *
          simp -implicitDefEqProofs [-pO, -pP, -rcall_eq, L_spec_l11Word, hld, hp, hpos, hw, hx, hlp, h3, hd, hap, hcut]
      · have hb : ¬ (c ≠ [] ∧ (fun b => decide (b = 32)) (gt c (c.length - 1)) = true) := fun h => h3 (by simpa using h.2)
        have hret := ret_w0 w z e1 e2 h1 h2 R (some (c, j, m)) t n out []
        have hcut := cut_w0 w z e1 e2 h1 h2 R (some (c, j, m)) t n out []
        refine ⟨j, by rw [dwS_stop _ _ _ _ hb], q, by omega, ?_⟩
        rw [dwS_stop _ _ _ _ hb, List.append_nil]
        generalize fM w z e1 e2 R (some (c, j, m)) t n ++ [ownB eU8 out] = M at *
        generalize hRB : zN z + (rB R).length = RB at *
        generalize hKK : fK z R (some (c, j, m)) = K at *
        generalize c.length - 1 = cl at *
        simp -implicitDefEqProofs [-pO, -pP, -rcall_eq, L_spec_l11Word, hld, hp, hpos, hw, hx, hlp, h3, hret, hcut]
end Go.Ab
namespace Go.Ab
set_option maxHeartbeats 4000000
theorem ret_any (w : WayT) (z : Zt) (e1 e2 : Value) (h1 : inert e1 = true) (h2 : inert e2 = true) (R : Option (List (List Int))) (E : EdT) (t : Bool) (n : Int) (Q : Mem) (i : Nat) (o : List Int) (hQ : Q[i]? = some (ownB eU8 o)) (r : List Value) : retK (fK z R E) (fM w z e1 e2 R E t n ++ Q) (ptr0 :: pP z 1 :: r) (slO (i + fK z R E) o.length) = some (slO (fK z R E) o.length, fM w z e1 e2 R E t n ++ [ownB eU8 o]) := by
  have n1 : nmV 8 e1 = [] := inert_nm h1
  have n2 : nmV 8 e2 = [] := inert_nm h2
  have r1 : ∀ π, rnV 8 inert π e1 = some e1 := fun π => rnV_p h1
  have r2 : ∀ π, rnV 8 inert π e2 = some e2 := fun π => rnV_p h2
  rcases R with _ | r <;> rcases E with _ | ⟨c, j, m⟩ <;> cases z <;> simp -implicitDefEqProofs [retK_eq, fK, hQ, h1, h2, n1, n2, r1, r2]
def wordS (w : WayT) (c : List Int) : List Int × List Int :=
  ((dwS w (fun b => decide (¬ b = 32)) c.length (dwS w (fun b => decide (b = 32)) c.length c).1).1, (dwS w (fun b => decide (b = 32)) c.length c).2 ++ (dwS w (fun b => decide (¬ b = 32)) c.length (dwS w (fun b => decide (b = 32)) c.length c).1).2)
def wfE : EdT → Prop
  | none => True
  | some (c, _, m) => c.length ≤ m ∧ c.length < 900
theorem x_Word (w : WayT) (z : Zt) (e1 e2 : Value) (h1 : inert e1 = true) (h2 : inert e2 = true) (R : Option (List (List Int))) (E : EdT) (t : Bool) (n : Int) (hE : wfE E) : ∃ E', okE E E' ∧ wfE E' ∧ fK z R E' = fK z R E ∧ oE E' = (wordS w (oE E)).1 ∧ ∀ Q : List Int, rcall X_spec_l11Word [ptr0, pP z 1] (fM w z e1 e2 R E t n ++ [ownB eU8 Q]) = some (slO (fK z R E + 1) (wordS w (oE E)).2.length, fM w z e1 e2 R E' t n ++ [ownB eU8 Q, ownB eU8 (wordS w (oE E)).2]) := by
  have n1 : nmV 8 e1 = [] := inert_nm h1
  have n2 : nmV 8 e2 = [] := inert_nm h2
  have r1 : ∀ π, rnV 8 inert π e1 = some e1 := fun π => rnV_p h1
  have r2 : ∀ π, rnV 8 inert π e2 = some e2 := fun π => rnV_p h2
  have es : (⟨[], 1, true, true⟩ : Blk) = ownB eU8 [] := rfl
  rcases E with _ | ⟨c, j, m⟩
  · refine ⟨none, trivial, trivial, rfl, rfl, fun Q => ?_⟩
    obtain ⟨q, hq⟩ : ∃ q, QQ = q + 1 + 1 := ⟨QQ - 2, by unfold QQ; omega⟩
    have hX : X_spec_l11Word [ptr0, pP z 1] (fM w z e1 e2 R none t n) = some (slO (fK z R none) 0, fM w z e1 e2 R none t n ++ [ownB eU8 []]) := by
      rcases R with _ | r <;> cases z <;> simp -implicitDefEqProofs [fK, X_spec_l11Word, L_spec_l11Word, retK_eq, cutK_eq, hq, h1, h2, n1, n2, r1, r2, es]
    have e : wordS w (oE none) = ([], []) := rfl
    rw [e]
    rcases R with _ | r <;> cases z <;> simp -implicitDefEqProofs [fK] at hX <;> simp -implicitDefEqProofs [fK, hX, h1, h2, n1, n2, r1, r2]
  · obtain ⟨hm, hc⟩ := hE
    have hd := dwS_len w (fun b => decide (b = 32)) c.length c
    obtain ⟨j0, g1, q', g2, g3⟩ := l_Word0 w z e1 e2 h1 h2 R m t n c.length c j [] QQ (Nat.le_refl _) (by omega) hm (by unfold QQ; omega) (by simp; omega)
    obtain ⟨j1, g4, g5⟩ := l_Word1 w z e1 e2 h1 h2 R m t n c.length (dwS w (fun b => decide (b = 32)) c.length c).1 j0 (dwS w (fun b => decide (b = 32)) c.length c).2 q' hd.1 (by omega) (by omega) (by unfold QQ at g2; omega) (by omega)
    have hd2 := dwS_len w (fun b => decide (¬ b = 32)) c.length (dwS w (fun b => decide (b = 32)) c.length c).1
    have hw1 : (wordS w c).1.length ≤ c.length := Nat.le_trans hd2.1 hd.1
    refine ⟨some ((wordS w c).1, j1, m), ⟨c, j, m, rfl, by rw [← g1, ← g4]; rfl⟩, ⟨Nat.le_trans hw1 hm, Nat.lt_of_le_of_lt hw1 hc⟩, rfl, rfl, fun Q => ?_⟩
    rw [List.nil_append] at g3
    have g5 : L_spec_l11Word (fK z R (some (c, j, m))) q' 1 [ptr0, pP z 1, slO (fK z R (some (c, j, m))) (dwS w (fun b => decide (b = 32)) c.length c).2.length] (fM w z e1 e2 R (some ((dwS w (fun b => decide (b = 32)) c.length c).1, j0, m)) t n ++ [ownB eU8 (dwS w (fun b => decide (b = 32)) c.length c).2]) = some (slO (fK z R (some (c, j, m))) (wordS w c).2.length, fM w z e1 e2 R (some ((wordS w c).1, j1, m)) t n ++ [ownB eU8 (wordS w c).2]) := g5
    rw [g5] at g3
    have g6 : (wordS w c).1 ++ j1 = c ++ j := by rw [← g1, ← g4]; rfl
    have hX : X_spec_l11Word [ptr0, pP z 1] (fM w z e1 e2 R (some (c, j, m)) t n) = some (slO (fK z R (some (c, j, m))) (wordS w c).2.length, fM w z e1 e2 R (some ((wordS w c).1, j1, m)) t n ++ [ownB eU8 (wordS w c).2]) := by
      have hcut := cut_w0 w z e1 e2 h1 h2 R (some (c, j, m)) t n [] [] (L_spec_l11Word (fK z R (some (c, j, m))) QQ 0)
      have hl := fM_len w z e1 e2 R (some (c, j, m)) t n
      rw [List.length_nil] at hcut g3
      refine Eq.trans ?_ g3
      refine Eq.trans ?_ hcut
      generalize fM w z e1 e2 R (some (c, j, m)) t n = M at *
      simp -implicitDefEqProofs [-pO, -pP, X_spec_l11Word, es, hl]
    have eo : oE (some (c, j, m)) = c := rfl
    rw [eo]
    generalize (wordS w c).2 = O at *
    generalize (wordS w c).1 = c1 at *
    rcases R with _ | r <;> cases z <;> simp -implicitDefEqProofs [fK, g6] at hX <;> simp -implicitDefEqProofs [fK, hX, g6, h1, h2, n1, n2, r1, r2]
end Go.Ab
namespace Go.Ab
set_option maxHeartbeats 4000000
theorem rt_any (w : WayT) (z : Zt) (e1 e2 : Value) (h1 : inert e1 = true) (h2 : inert e2 = true) (R : Option (List (List Int))) (E E' : EdT) (hk : fK z R E' = fK z R E) (t : Bool) (n : Int) (Q : Mem) (i k : Nat) (o : List Int) (hQ : Q[i]? = some (ownB eU8 o)) (hi : k = i + fK z R E) (r : List Value) : retK (fK z R E) (fM w z e1 e2 R E' t n ++ Q) (ptr0 :: pP z 1 :: r) (slO k o.length) = some (slO (fK z R E) o.length, fM w z e1 e2 R E' t n ++ [ownB eU8 o]) := by
  subst hi
  rw [← hk]
  exact ret_any w z e1 e2 h1 h2 R E' t n Q i o hQ r
end Go.Ab
