/- What the functions of the program answer, for all arguments that the theorems name as conditions. -/
import Derived.Test.YtcfjcghbinnngaaXFnEnds
import Derived.Test.YtcfjcghbinnngaaFD
set_option linter.unusedVariables false
set_option linter.unusedSimpArgs false
namespace Go.Ab
set_option maxHeartbeats 8000000
abbrev eI6 : Enc Int := eI .i64
abbrev eU8 : Enc Int := eI .u8
abbrev slO (n l : Nat) : Value := .slice (some ⟨n, 0, none⟩) l l
abbrev ptr (n : Nat) : Value := .pointer (some ⟨n, 0, none⟩)
abbrev blk (l : List Value) : Blk := ⟨l, 0, true, true⟩
@[simp] theorem rn_hard_ro0 (k : Nat) (π : Nat → Option Nat) : rnV (k + 1) hard π (roS 0 []) = some (roS 0 []) := rnV_p rfl
@[simp] theorem hard_ro0 : hard (roS 0 []) = true := (rfl)
@[simp] theorem shB_eB (N k : Nat) (l : List Bool) : shB N k (ownB eB l) = some (ownB eB l) := shB_own eB eB_hard N k l
@[simp] theorem shB_eI (q : IntKind) (N k : Nat) (l : List Int) : shB N k (ownB (eI q) l) = some (ownB (eI q) l) := shB_own (eI q) (eI_hard q) N k l
@[simp] theorem mk_eB (n : Nat) : (⟨List.replicate n (Value.bool false), 1, true, true⟩ : Blk) = ownB eB (List.replicate n false) := by
  have := flat_rep eB n false
  simp at this
  rw [this]; rfl
@[simp] theorem mk_eI (q : IntKind) (n : Nat) : (⟨List.replicate n (Value.int q 0), 1, true, true⟩ : Blk) = ownB (eI q) (List.replicate n 0) := by
  have := flat_rep (eI q) n 0
  simp at this
  rw [this]; rfl
theorem bnd_nat (k : IntKind) (i d : Nat) : bndX (some (.int k (i : Int))) d = some i := by
  show (if (0 : Int) ≤ (i : Int) then some (i : Int).toNat else none) = some i
  rw [if_pos (by omega)]
  simp
end Go.Ab
namespace Go.Ab
set_option maxHeartbeats 8000000
theorem s_impl_first (a b : Int) : X_impl_first [frS eI6 [a, b]] [] = some (.int .i64 (if a = 0 then b else a), []) := by
  have h1 : ∀ q, L_impl_first 0 (q + 1) 0 [frS eI6 [a, b], .int .i64 2, .int .i64 2] [] = some (.int .i64 0, []) := by
    intro q
    simp +contextual -implicitDefEqProofs [L_impl_first, retK_eq, cutK_eq]
  have h2 : ∀ q, L_impl_first 0 (q + 2) 0 [frS eI6 [a, b], .int .i64 2, .int .i64 1] [] = some (.int .i64 b, []) := by
    intro q
    have hx := ixa_mid eI6 (sz := 1) rfl .i64 [a] b []
    simp at hx
    simp +contextual -implicitDefEqProofs [L_impl_first, retK_eq, cutK_eq, h1, hx, wrap_i64]
  have h3 : L_impl_first 0 QQ 0 [frS eI6 [a, b], .int .i64 2, .int .i64 0] [] = some (.int .i64 (if a = 0 then b else a), []) := by
    obtain ⟨q, hq⟩ : ∃ n, QQ = n + 3 := ⟨QQ - 3, by unfold QQ; omega⟩
    have hx := ixa_mid eI6 (sz := 1) rfl .i64 [] a [b]
    simp at hx
    rw [hq]
    simp +contextual -implicitDefEqProofs [L_impl_first, retK_eq, cutK_eq, h2, hx, wrap_i64]
    split <;> rfl
  simp +contextual -implicitDefEqProofs [X_impl_first, retK_eq, cutK_eq, h3]
@[simp] theorem fz_two (k : Nat) (m : Mem) (a b : Int) : fzO (k + 1) m (some ⟨[.int .i64 a, .int .i64 b], 1, true, true⟩) 0 2 = some (frS eI6 [a, b]) := fzO_own eI6 k m [a, b]
end Go.Ab
namespace Go.Ab
set_option maxHeartbeats 8000000
def unl (t : Bool) (a : Int) : Int := if t = true then 0 else a
theorem s_impl_unless (t : Bool) (a : Int) : X_impl_unless [.bool t, .int .i64 a] [] = some (.int .i64 (unl t a), []) := by
  simp +contextual -implicitDefEqProofs [X_impl_unless, retK_eq]
  cases t <;> simp [unl]
end Go.Ab
namespace Go.Ab
set_option maxHeartbeats 8000000
def inB (x a b : Int) : Bool := decide (a ≤ x) && decide (x ≤ b)
end Go.Ab
namespace Go.Ab
set_option maxHeartbeats 8000000
end Go.Ab
namespace Go.Ab
set_option maxHeartbeats 8000000
theorem s_impl_in (x a b : Int) : X_impl_in [.int .i64 x, .int .i64 a, .int .i64 b] [] = some (.bool (inB x a b), []) := by
  simp +contextual -implicitDefEqProofs [X_impl_in, retK_eq]
  by_cases h : a ≤ x <;> simp [h, inB]
end Go.Ab
namespace Go.Ab
def eBS : Enc (List Int) := ⟨1, fun l => [frS eU8 l], by decide, fun _ => rfl, fun _ => rfl⟩
@[simp] theorem eBS_f (l : List Int) : eBS.f l = [frS eU8 l] := (rfl)
@[simp] theorem eBS_sz : eBS.sz = 1 := (rfl)
def sumL : List (List Int) → Nat
  | [] => 0
  | x :: r => x.length + sumL r
theorem eU8_hard : eU8.Hard := eI_hard .u8
end Go.Ab
namespace Go.Ab
set_option maxHeartbeats 4000000
def firstV : List Int → Int
  | [] => 0
  | x :: r => if x = 0 then firstV r else x
theorem l_impl_first (r : List Int) : ∀ (p : List Int) (q n : Nat), r.length < q → n = (p ++ r).length → n < 1000000000 → L_impl_first 0 q 0 [frS eI6 (p ++ r), .int .i64 n, .int .i64 p.length] [] = some (.int .i64 (firstV r), []) := by
  induction r with
  | nil =>
    intro p q n hq hn hl
    obtain ⟨q, rfl⟩ : ∃ n, q = n + 1 := ⟨q - 1, by omega⟩
    subst hn
    simp +contextual -implicitDefEqProofs [L_impl_first, retK_eq, firstV]
  | cons x r ih =>
    intro p q n hq hn hl
    obtain ⟨q, rfl⟩ : ∃ n, q = n + 1 := ⟨q - 1, by omega⟩
    have h := ih (p ++ [x]) q n (by simp at hq; omega) (by simpa using hn) hl
    have hn' : n = p.length + (r.length + 1) := by simpa using hn
    subst hn'
    simp at h
    have hx := ixa_mid eI6 (sz := 1) rfl .i64 p x r
    have hw := wrap_next (n := p.length) (by omega)
    simp +contextual -implicitDefEqProofs [L_impl_first, retK_eq, cutK_eq, hx, hw, h, firstV]
    split <;> rfl
theorem s_impl_firstV (l : List Int) (hl : l.length < 1000000000) : X_impl_first [frS eI6 l] [] = some (.int .i64 (firstV l), []) := by
  have h := l_impl_first l [] QQ l.length (by unfold QQ; omega) rfl hl
  simp at h
  simp +contextual -implicitDefEqProofs [X_impl_first, retK_eq, cutK_eq, h]
@[simp] theorem fz_three (k : Nat) (m : Mem) (a b c : Int) : fzO (k + 1) m (some ⟨[.int .i64 a, .int .i64 b, .int .i64 c], 1, true, true⟩) 0 3 = some (frS eI6 [a, b, c]) := fzO_own eI6 k m [a, b, c]
theorem s_impl_first3 (a b c : Int) : X_impl_first [frS eI6 [a, b, c]] [] = some (.int .i64 (if a = 0 then (if b = 0 then c else b) else a), []) := by
  rw [s_impl_firstV [a, b, c] (by simp)]
  simp only [firstV]
  by_cases h1 : a = 0 <;> by_cases h2 : b = 0 <;> by_cases h3 : c = 0 <;> simp [h1, h2, h3]
structure WayT where
  a : Int
  b : Int
  c : Int
  d : Int
  e : Int
  f : Int
  g : Int
abbrev wayT (w : WayT) (rest : List Value) : List Value := .int .i64 w.a :: .int .i64 w.b :: .int .i64 w.c :: .int .i64 w.d :: .int .i64 w.e :: .int .i64 w.f :: .int .i64 w.g :: rest
abbrev wayV (w : WayT) : Value := .agg (wayT w []).toArray
def wayL (w : WayT) : List Int := [w.a, w.b, w.c, w.d, w.e, w.f, w.g]
theorem wayL_len (w : WayT) : (wayL w).length = 7 := rfl
structure LnT where
  rows : List (List Int)
  cur : List Int
  t : Bool
  n : Int
abbrev lnT (l : LnT) (rest : List Value) : List Value := frS eBS l.rows :: frS eU8 l.cur :: .bool l.t :: .int .i64 l.n :: rest
abbrev lnV (l : LnT) : Value := .agg (lnT l []).toArray
def LnT.small (l : LnT) : Prop := l.rows.length < 1000000000 ∧ (∀ x ∈ l.rows, x.length < 1000000000) ∧ l.cur.length < 1000000000
@[simp] theorem cell_i (k : IntKind) (p r : List Int) (x : Int) : (cellsE (eI k) (p ++ x :: r))[p.length]? = some (.int k x) := by
  have := cell_at (eI k) (l := p ++ x :: r) (i := p.length) (o := 0) (by simp) (by rw [eI_sz]; exact Nat.one_pos)
  rw [gt_mid, eI_sz, Nat.mul_one, Nat.add_zero] at this
  exact this
@[simp] theorem cell_i' (k : IntKind) (p r : List Int) (x : Int) (h : p.length < (cellsE (eI k) (p ++ x :: r)).length) : (cellsE (eI k) (p ++ x :: r))[p.length]'h = .int k x := by
  have := cell_i k p r x
  rw [List.getElem?_eq_getElem h] at this
  exact Option.some.inj this
theorem s_impl_Way_numbers (w : WayT) : X_impl_Way_numbers [wayV w] [] = some (slO 0 (wayL w).length, [ownB eI6 (wayL w)]) := by
  simp +contextual -implicitDefEqProofs [X_impl_Way_numbers, retK_eq]
  exact ⟨rfl, rfl⟩
def okW : Nat → List Int → Bool
  | _, [] => true
  | i, x :: r => inB x 0 (if i = 0 then 511 else 255) && okW (i + 1) r
theorem l_impl_WayFault (r : List Int) : ∀ (p : List Int) (q n : Nat), r.length < q → n = (p ++ r).length → n < 1000 → L_impl_WayFault 0 q 0 [slO 0 n, .int .i64 n, .int .i64 p.length] [ownB eI6 (p ++ r)] = some (.int .i64 (if okW p.length r = true then 0 else 3), []) := by
  induction r with
  | nil =>
    intro p q n hq hn hl
    obtain ⟨q, rfl⟩ : ∃ n, q = n + 1 := ⟨q - 1, by omega⟩
    subst hn
    simp +contextual -implicitDefEqProofs [L_impl_WayFault, retK_eq, okW]
  | cons x r ih =>
    intro p q n hq hn hl
    obtain ⟨q, rfl⟩ : ∃ n, q = n + 1 := ⟨q - 1, by omega⟩
    have h := ih (p ++ [x]) q n (by simp at hq; omega) (by simpa using hn) hl
    simp at h
    have hn' : n = p.length + (r.length + 1) := by simpa using hn
    subst hn'
    simp at h
    have hw := wrap_next (n := p.length) (by omega)
    have hin : inB x 0 255 = true → inB x 0 511 = true := by simp [inB]; omega
    rcases Classical.propComplete (p = []) with e0 | e0 <;> cases e1 : inB x 0 255 <;> cases e2 : inB x 0 511 <;> simp [e1, e2] at hin <;>
      simp -implicitDefEqProofs [L_impl_WayFault, retK_eq, cutK_eq, s_impl_in, h, hw, e0, okW, e1, e2]
def wayF (w : WayT) : Int := if okW 0 (wayL w) = true then 0 else 3
theorem s_impl_WayFault (w : WayT) : X_impl_WayFault [wayV w] [] = some (.int .i64 (wayF w), []) := by
  have c1 := s_impl_Way_numbers w
  have h := l_impl_WayFault (wayL w) [] QQ (wayL w).length (by unfold QQ; simp [wayL_len]) rfl (by simp [wayL_len])
  simp at h
  simp +contextual -implicitDefEqProofs [X_impl_WayFault, retK_eq, cutK_eq, c1, h, wayF]
theorem sumL_le : ∀ (r : List (List Int)), (∀ x ∈ r, x.length < 1000000000) → sumL r ≤ r.length * 1000000000
  | [], _ => Nat.zero_le _
  | x :: r, h => by
    have h1 := sumL_le r (fun y hy => h y (by simp [hy]))
    have h2 := h x (by simp)
    simp only [sumL, List.length_cons]
    omega
theorem l_impl_Line_size (r : List (List Int)) : ∀ (p : List (List Int)) (q n : Nat) (t : Nat), r.length < q → n = (p ++ r).length → n < 1000000000 → t + sumL r < 1000000000000 → L_impl_Line_size 0 q 0 [.int .i64 t, frS eBS (p ++ r), .int .i64 n, .int .i64 p.length] [] = some (.int .i64 ((t + sumL r : Nat) : Int), []) := by
  induction r with
  | nil =>
    intro p q n t hq hn hl ht
    obtain ⟨q, rfl⟩ : ∃ n, q = n + 1 := ⟨q - 1, by omega⟩
    subst hn
    simp +contextual -implicitDefEqProofs [L_impl_Line_size, retK_eq, sumL]
  | cons x r ih =>
    intro p q n t hq hn hl ht
    obtain ⟨q, rfl⟩ : ∃ n, q = n + 1 := ⟨q - 1, by omega⟩
    simp only [sumL] at ht
    have h := ih (p ++ [x]) q n (t + x.length) (by simp at hq; omega) (by simpa using hn) hl (by omega)
    simp at h
    have hn' : n = p.length + (r.length + 1) := by simpa using hn
    subst hn'
    simp at h
    have hx := ixa_mid eBS (sz := 1) rfl .i64 p x r
    have hw := wrap_next (n := p.length) (by omega)
    have hw2 : IntKind.i64.wrap ((t : Int) + x.length) = (t : Int) + x.length := wrap_i64 (by omega) (by omega)
    simp +contextual -implicitDefEqProofs [L_impl_Line_size, retK_eq, cutK_eq, hx, hw, hw2, h, sumL]
    omega
def LnT.size (l : LnT) : Nat := l.cur.length + sumL l.rows
theorem size_le {l : LnT} (hl : l.small) (h : l.rows.length ≤ 40) : l.cur.length + sumL l.rows < 1000000000000 := by
  have := sumL_le l.rows hl.2.1
  have := hl.2.2
  omega
theorem s_impl_Line_size (l : LnT) (hl : l.small) (h : l.rows.length ≤ 40) : X_impl_Line_size [lnV l] [] = some (.int .i64 (l.size : Nat), []) := by
  have h1 := l_impl_Line_size l.rows [] QQ l.rows.length l.cur.length (by unfold QQ; omega) rfl (by omega) (size_le hl h)
  simp at h1
  simp +contextual -implicitDefEqProofs [X_impl_Line_size, retK_eq, cutK_eq, h1, LnT.size]
def lineF (l : LnT) : Int := if l.rows.length ≤ 40 ∧ l.size ≤ 40 then (if inB l.n 0 999 = true then 0 else 3) else 2
theorem s_impl_LineFault (l : LnT) (hl : l.small) : X_impl_LineFault [lnV l] [] = some (.int .i64 (lineF l), []) := by
  by_cases h : l.rows.length ≤ 40
  · have c1 := s_impl_Line_size l hl h
    have h' : (l.rows.length : Int) ≤ 40 := by omega
    have h'' : ¬ (40 : Int) < l.rows.length := by omega
    by_cases h2 : l.size ≤ 40
    · have h2' : (l.size : Int) ≤ 40 := by omega
      have h2'' : ¬ (40 : Int) < l.size := by omega
      cases e : inB l.n 0 999 <;> simp -implicitDefEqProofs [X_impl_LineFault, retK_eq, s_impl_in, s_impl_unless, unl, s_impl_first, c1, h, h', h'', h2, h2', h2'', e, lineF]
    · have h2' : ¬ (l.size : Int) ≤ 40 := by omega
      have h2'' : (40 : Int) < l.size := by omega
      cases e : inB l.n 0 999 <;> simp -implicitDefEqProofs [X_impl_LineFault, retK_eq, s_impl_in, s_impl_unless, unl, s_impl_first, c1, h, h', h'', h2, h2', h2'', e, lineF]
  · have h' : ¬ (l.rows.length : Int) ≤ 40 := by omega
    have h'' : (40 : Int) < l.rows.length := by omega
    cases e : inB l.n 0 999 <;> simp -implicitDefEqProofs [X_impl_LineFault, retK_eq, s_impl_in, s_impl_unless, unl, s_impl_first, h, h', h'', e, lineF]
end Go.Ab
namespace Go.Ab
set_option maxHeartbeats 4000000
def cnB (w : WayT) : Bool := decide (andI .i64 w.a 1 = 1)
theorem and1 (a : Int) : andI .i64 a 1 = 0 ∨ andI .i64 a 1 = 1 := by
  have h : ∀ x : BitVec 64, x &&& 1#64 = 0#64 ∨ x &&& 1#64 = 1#64 := fun x => by
    have h1 : (x &&& 1#64).toNat = x.toNat % 2 := by
      rw [BitVec.toNat_and]
      exact Nat.and_one_is_mod _
    rcases Nat.mod_two_eq_zero_or_one x.toNat with h2 | h2
    · left
      apply BitVec.eq_of_toNat_eq
      rw [h1, h2]
      rfl
    · right
      apply BitVec.eq_of_toNat_eq
      rw [h1, h2]
      rfl
  unfold andI
  rcases h (BitVec.ofInt 64 a) with e | e
  · left
    show IntKind.i64.wrap ((BitVec.ofInt 64 a &&& 1#64).toNat : Int) = 0
    rw [e]
    rfl
  · right
    show IntKind.i64.wrap ((BitVec.ofInt 64 a &&& 1#64).toNat : Int) = 1
    rw [e]
    rfl
theorem s_impl_Way_has (w : WayT) : X_impl_Way_has [wayV w, .int .i64 1] [] = some (.bool (cnB w), []) := by
  rcases and1 w.a with h | h <;> simp -implicitDefEqProofs [X_impl_Way_has, retK_eq, cnB, h]
abbrev nilW : Value := .slice none 0 0
abbrev slQ (b o n c : Nat) : Value := .slice (some ⟨b, o, none⟩) n c
end Go.Ab
namespace Go.Ab
set_option maxHeartbeats 4000000
@[simp] theorem cellB (p r : List (List Int)) (x : List Int) : (cellsE eBS (p ++ x :: r))[p.length]? = some (frS eU8 x) := by
  have := cell_at eBS (l := p ++ x :: r) (i := p.length) (o := 0) (by simp) (by simp)
  rw [gt_mid, eBS_sz, Nat.mul_one, Nat.add_zero] at this
  exact this
@[simp] theorem cellB' (p r : List (List Int)) (x : List Int) (h : p.length < (cellsE eBS (p ++ x :: r)).length) : (cellsE eBS (p ++ x :: r))[p.length]'h = frS eU8 x := by
  have := cellB p r x
  rw [List.getElem?_eq_getElem h] at this
  exact Option.some.inj this
abbrev lrC (c : Int) (b : Bool) (v1 v2 v3 v4 : Value) (t : Bool) (m : Int) : List Value := [.int .i64 c, .bool b, v1, v2, v3, v4, .bool t, .int .i64 m]
abbrev lrV (c : Int) (b : Bool) (v1 v2 v3 v4 : Value) (t : Bool) (m : Int) : Value := .agg (lrC c b v1 v2 v3 v4 t m).toArray
def askF (w : WayT) (l : LnT) : Int := if wayF w = 0 then lineF l else wayF w
theorem line_small40 {w : WayT} {l : LnT} (hf : askF w l = 0) : l.rows.length ≤ 40 ∧ l.size ≤ 40 := by
  unfold askF at hf
  split at hf
  · unfold lineF at hf
    split at hf
    · rename_i h; exact h
    · cases hf
  · rename_i h; exact absurd hf h
abbrev lrF (c : Int) (b : Bool) (O E : List Int) (l : LnT) : Value := lrV c b (frS eU8 O) (frS eU8 E) (frS eBS l.rows) (frS eU8 l.cur) l.t l.n
theorem fz_partF {k c j b : Nat} {mm P Q : Mem} {L R : List (El Int)} (hb : mm[j]? = some (famB b 1 (L ++ R))) (hm : mm = P ++ (famM eU8 R ++ Q)) (hP : P.length = b + famN L) (hok : ∀ e ∈ R, e.ok eU8) (hL : ∀ e ∈ L, e.a.length + 1 + e.b.length = 1) (hR : ∀ e ∈ R, e.a.length + 1 + e.b.length = 1) : fz (k + 3) mm (slQ j L.length R.length c) = some (roS R.length (R.flatMap (El.fro eU8))) := by
  have hf := fz_fam eU8 (k := k) R P Q hok
  rw [← hm, hP] at hf
  rw [fz_slO, hb]
  unfold fzO
  split
  · rename_i h0
    obtain rfl : R = [] := List.eq_nil_of_length_eq_zero h0
    rfl
  · rename_i h0
    have l1 : (famX b L).length = L.length := by have := famX_len L b hL; omega
    have l2 : (famX (b + famN L) R).length = R.length := by have := famX_len R (b + famN L) hR; omega
    have hr : fzO.rdB (famB b 1 (L ++ R)) L.length (R.length * (famB b 1 (L ++ R)).es) = some (famX (b + famN L) R) := by
      show fzO.rdB ⟨famX b (L ++ R), 1, true, true⟩ L.length (R.length * 1) = _
      rw [famX_app]
      unfold fzO.rdB
      split
      · omega
      · rw [if_pos ⟨rfl, by rw [List.length_append, l1, l2]; omega⟩, ← l1, List.drop_left, List.take_of_length_le (by rw [l2]; omega)]
    simp only [hr, ob_some, hf]
    rfl
end Go.Ab
namespace Go.Ab
set_option maxHeartbeats 4000000
def hs (w : WayT) (k : Int) : Bool := decide (¬ andI .i64 w.a k = 0)
def hid (b : Int) : Bool := (decide (b < 32) && (decide (¬ b = 9) && decide (¬ b = 10))) || decide (b = 127)
def xo (b : Int) : Int := xorI .u8 b 64
def shS (w : WayT) (b : Int) : List Int := if hs w 16 && hid b then [94, xo b] else [b]
def ecS (w : WayT) (b : Int) : List Int := if hs w 2 then shS w b else []
def isS (n b : Int) : Bool := decide (¬ n = 0) && decide (n = b)
abbrev wB (w : WayT) : Blk := blk (wayT w [])
@[simp] def rV (k : Nat) : Option (List (List Int)) → Value
  | none => .slice none 0 0
  | some r => slO k r.length
@[simp] def rB : Option (List (List Int)) → Mem
  | none => []
  | some r => [ownB eBS r]
@[simp] def eV (k : Nat) : Option (List Int × List Int × Nat) → Value
  | none => .slice none 0 0
  | some (c, j, n) => slQ k 0 c.length n
@[simp] def eB' : Option (List Int × List Int × Nat) → Mem
  | none => []
  | some (c, j, n) => [ownB eU8 (c ++ j)]
def bOk (bs : List Int) : Prop := ∀ x ∈ bs, 0 ≤ x ∧ x < 256
end Go.Ab
namespace Go.Ab
set_option maxHeartbeats 4000000
inductive Zt where
  | a
  | n
  | o (l j : List Int) (c : Nat)
@[simp] abbrev hB (z : Zt) : Mem := match z with
  | .o l j c => [ownB eU8 (l ++ j)]
  | _ => []
@[simp] abbrev zN (z : Zt) : Nat := 2 + (hB z).length
@[simp] abbrev pO (z : Zt) : Nat := match z with
  | .a => 0
  | _ => 4
@[simp] abbrev pC (z : Zt) (e1 e2 : Value) : List Value := match z with
  | .a => []
  | .n => [.int .i64 0, .bool false, e1, e2]
  | .o l j c => [.int .i64 0, .bool false, e1, slQ 2 0 l.length c]
@[simp] abbrev pP (z : Zt) (k : Nat) : Value := .pointer (some ⟨k, pO z, none⟩)
@[simp] abbrev lBk (z : Zt) (e1 e2 : Value) (rv ev : Value) (t : Bool) (n : Int) : Blk := blk (pC z e1 e2 ++ [rv, ev, .bool t, .int .i64 n])
@[simp] abbrev fM (w : WayT) (z : Zt) (e1 e2 : Value) (R : Option (List (List Int))) (E : Option (List Int × List Int × Nat)) (t : Bool) (n : Int) : Mem :=
  wB w :: lBk z e1 e2 (rV (zN z) R) (eV (zN z + (rB R).length) E) t n :: (hB z ++ (rB R ++ eB' E))
@[simp] abbrev oR (R : Option (List (List Int))) : List (List Int) := R.getD []
@[simp] abbrev oE (E : Option (List Int × List Int × Nat)) : List Int := match E with
  | none => []
  | some (c, _, _) => c
theorem fz_eE (k : Nat) (m : Mem) (j : Nat) (E : Option (List Int × List Int × Nat)) (h : ∀ c q n, E = some (c, q, n) → m[j]? = some (ownB eU8 (c ++ q))) : fz (k + 3) m (eV j E) = some (frS eU8 (oE E)) := by
  cases E with
  | none => rfl
  | some x =>
    obtain ⟨c, q, n⟩ := x
    have := h c q n rfl
    have e := fzO_part eU8 (k + 1) m (l := c ++ q) (o := 0) (a := 0) (len := c.length) rfl (by simp)
    simp at e
    simp [eV, this, e]
end Go.Ab
namespace Go.Ab
set_option maxHeartbeats 4000000
theorem hE (c j : List Int) (k : Nat) (m : Mem) : fzO (k + 1) m (some (ownB eU8 (c ++ j))) 0 c.length = some (frS eU8 c) := by
  have e := fzO_part eU8 k m (l := c ++ j) (o := 0) (a := 0) (len := c.length) rfl (by simp)
  simpa using e
abbrev EdT := Option (List Int × List Int × Nat)
@[simp] def rD : Option (List (List Int)) → Mem
  | none => []
  | some r => [⟨cellsE eBS r, 1, true, false⟩]
@[simp] def eD : EdT → Mem
  | none => []
  | some (c, j, n) => [⟨cellsE eU8 (c ++ j), 1, true, false⟩]
inductive Fm where
  | u (E : EdT)
  | t (c : List Int)
  | n (r : List (List Int)) (E : EdT)
abbrev fK (z : Zt) (R : Option (List (List Int))) (E : EdT) : Nat := zN z + (rB R).length + (eB' E).length
@[simp] def Fm.rv (z : Zt) (R : Option (List (List Int))) (E : EdT) : Fm → Value
  | .u _ => rV (zN z) R
  | .t _ => rV (zN z) R
  | .n r _ => slO (fK z R E + 1) r.length
@[simp] def Fm.ev (z : Zt) (R : Option (List (List Int))) (E : EdT) : Fm → Value
  | .u E' => eV (zN z + (rB R).length) E'
  | .t c => slO (fK z R E + 1) c.length
  | .n _ E' => eV (zN z + (rB R).length) E'
@[simp] def Fm.old (R : Option (List (List Int))) (E : EdT) : Fm → Mem
  | .u _ => rB R ++ eB' E
  | .t _ => rB R ++ eD E
  | .n _ _ => rD R ++ eB' E
@[simp] def Fm.new : Fm → Mem
  | .u _ => []
  | .t c => [ownB eU8 c]
  | .n r _ => [ownB eBS r]
abbrev Fm.mem (w : WayT) (z : Zt) (e1 e2 : Value) (R : Option (List (List Int))) (E : EdT) (t : Bool) (n : Int) (o : Mem) (F : Fm) : Mem := wB w :: lBk z e1 e2 (F.rv z R E) (F.ev z R E) t n :: ((hB z ++ F.old R E) ++ (o ++ F.new))
@[simp] def Fm.ln (R : Option (List (List Int))) (t : Bool) (n : Int) : Fm → LnT
  | .u E' => ⟨oR R, oE E', t, n⟩
  | .t c => ⟨oR R, c, t, n⟩
  | .n r E' => ⟨r, oE E', t, n⟩
def okE (E : EdT) : EdT → Prop
  | none => True
  | some (c', j', _) => ∃ c j n, E = some (c, j, n) ∧ c' ++ j' = c ++ j
def Fm.ok (E : EdT) : Fm → Prop
  | .u E' => okE E E'
  | .t _ => True
  | .n _ E' => okE E E'
end Go.Ab
namespace Go.Ab
set_option maxHeartbeats 4000000
end Go.Ab
