/- What the functions of the program answer, for all arguments that the theorems name as conditions. -/
import Derived.Test.YtkfbpdbopkdnjaaS10Ma
import Derived.Test.YtkfbpdbopkdnjaaFD
namespace Go.Ab
set_option linter.unusedSimpArgs false
set_option linter.unusedVariables false
set_option maxHeartbeats 4000000

def firstV : List Int → Int
  | [] => 0
  | x :: r => if x = 0 then firstV r else x
theorem l_impl_first (r : List Int) : ∀ (p : List Int) (q n : Nat), r.length < q → n = (p ++ r).length → n < 1000000000 → L_impl_first 0 q 0 [frS eI6 (p ++ r), .int .i64 n, .int .i64 p.length] [] = some (.int .i64 (firstV r), []) := by
  induction r with
  | nil =>
    intro p q n hq hn hl
    obtain ⟨q, rfl⟩ : ∃ n, q = n + 1 := ⟨q - 1, by omega⟩
    subst hn
    simp +contextual -implicitDefEqProofs [L_impl_first, retK_eq, firstV]
  | cons x r ih =>
    intro p q n hq hn hl
    obtain ⟨q, rfl⟩ : ∃ n, q = n + 1 := ⟨q - 1, by omega⟩
    have h := ih (p ++ [x]) q n (by simp at hq; omega) (by simpa using hn) hl
    have hn' : n = p.length + (r.length + 1) := by simpa using hn
    subst hn'
    simp at h
    have hx := ixa_mid eI6 (sz := 1) rfl .i64 p x r
    have hw := wrap_next (n := p.length) (by omega)
    simp +contextual -implicitDefEqProofs [L_impl_first, retK_eq, cutK_eq, hx, hw, h, firstV]
    split <;> rfl
theorem s_impl_firstV (l : List Int) (hl : l.length < 1000000000) : X_impl_first [frS eI6 l] [] = some (.int .i64 (firstV l), []) := by
  have h := l_impl_first l [] QQ l.length (by unfold QQ; omega) rfl hl
  simp at h
  simp +contextual -implicitDefEqProofs [X_impl_first, retK_eq, cutK_eq, h]
@[simp] theorem fz_three (k : Nat) (m : Mem) (a b c : Int) : fzO (k + 1) m (some ⟨[.int .i64 a, .int .i64 b, .int .i64 c], 1, true, true⟩) 0 3 = some (frS eI6 [a, b, c]) := fzO_own eI6 k m [a, b, c]
theorem s_impl_first3 (a b c : Int) : X_impl_first [frS eI6 [a, b, c]] [] = some (.int .i64 (if a = 0 then (if b = 0 then c else b) else a), []) := by
  rw [s_impl_firstV [a, b, c] (by simp)]
  simp only [firstV]
  by_cases h1 : a = 0 <;> by_cases h2 : b = 0 <;> by_cases h3 : c = 0 <;> simp [h1, h2, h3]

/-! ## Ways, lines, consoles -/
structure WayT where
  a : Int
  b : Int
  c : Int
  d : Int
  e : Int
  f : Int
  g : Int
abbrev wayT (w : WayT) (rest : List Value) : List Value := .int .i64 w.a :: .int .i64 w.b :: .int .i64 w.c :: .int .i64 w.d :: .int .i64 w.e :: .int .i64 w.f :: .int .i64 w.g :: rest
abbrev wayV (w : WayT) : Value := .agg (wayT w []).toArray
abbrev wayP (w : WayT) (rest : List Value) : Value := roP (wayT w rest)
def wayL (w : WayT) : List Int := [w.a, w.b, w.c, w.d, w.e, w.f, w.g]
theorem wayL_len (w : WayT) : (wayL w).length = 7 := rfl
structure LnT where
  rows : List (List Int)
  cur : List Int
  t : Bool
  n : Int
abbrev lnT (l : LnT) (rest : List Value) : List Value := frS eBS l.rows :: frS eU8 l.cur :: .bool l.t :: .int .i64 l.n :: rest
abbrev lnV (l : LnT) : Value := .agg (lnT l []).toArray
abbrev lnP (l : LnT) (rest : List Value) : Value := roP (lnT l rest)
def LnT.fit (l : LnT) : Prop := l.rows.length ≤ 9223372036854775807 ∧ (∀ x ∈ l.rows, x.length ≤ 9223372036854775807) ∧ l.cur.length ≤ 9223372036854775807
def LnT.small (l : LnT) : Prop := l.rows.length < 1000000000 ∧ (∀ x ∈ l.rows, x.length < 1000000000) ∧ l.cur.length < 1000000000
theorem s_toWay (w : WayT) : X_laws_toWay [wayV w] [] = some (wayV w, []) := by
  simp (maxSteps := 2000000) +contextual -implicitDefEqProofs [X_laws_toWay, retK_eq]
@[simp] theorem cell_i (k : IntKind) (p r : List Int) (x : Int) : (cellsE (eI k) (p ++ x :: r))[p.length]? = some (.int k x) := by
  have := cell_at (eI k) (l := p ++ x :: r) (i := p.length) (o := 0) (by simp) (by rw [eI_sz]; exact Nat.one_pos)
  rw [gt_mid, eI_sz, Nat.mul_one, Nat.add_zero] at this
  exact this
@[simp] theorem cell_i' (k : IntKind) (p r : List Int) (x : Int) (h : p.length < (cellsE (eI k) (p ++ x :: r)).length) : (cellsE (eI k) (p ++ x :: r))[p.length]'h = .int k x := by
  have := cell_i k p r x
  rw [List.getElem?_eq_getElem h] at this
  exact Option.some.inj this
theorem s_spec_l10List (w : WayT) (rest : List Value) : X_spec_l10List [wayP w rest] [] = some (slO 0 (wayL w).length, [ownB eI6 (wayL w)]) := by
  simp +contextual -implicitDefEqProofs [X_spec_l10List, retK_eq]
  exact ⟨rfl, rfl⟩
theorem s_impl_Way_numbers (w : WayT) : X_impl_Way_numbers [wayV w] [] = some (slO 0 (wayL w).length, [ownB eI6 (wayL w)]) := by
  simp +contextual -implicitDefEqProofs [X_impl_Way_numbers, retK_eq]
  exact ⟨rfl, rfl⟩
def okW : Nat → List Int → Bool
  | _, [] => true
  | i, x :: r => inB x 0 (if i = 0 then 511 else 255) && okW (i + 1) r
theorem l_spec_l10Fault (r : List Int) : ∀ (p : List Int) (q n : Nat), r.length < q → n = (p ++ r).length → n < 1000 → L_spec_l10Fault 0 q 0 [slO 0 n, .int .i64 p.length] [ownB eI6 (p ++ r)] = some (.int .i64 (if okW p.length r = true then 0 else 3), []) := by
  induction r with
  | nil =>
    intro p q n hq hn hl
    obtain ⟨q, rfl⟩ : ∃ n, q = n + 1 := ⟨q - 1, by omega⟩
    subst hn
    simp +contextual -implicitDefEqProofs [L_spec_l10Fault, retK_eq, okW]
  | cons x r ih =>
    intro p q n hq hn hl
    obtain ⟨q, rfl⟩ : ∃ n, q = n + 1 := ⟨q - 1, by omega⟩
    have h := ih (p ++ [x]) q n (by simp at hq; omega) (by simpa using hn) hl
    simp at h
    have hn' : n = p.length + (r.length + 1) := by simpa using hn
    subst hn'
    have hw := wrap_next (n := p.length) (by omega)
    rcases Classical.propComplete (p = []) with e0 | e0
    · simp -implicitDefEqProofs [L_spec_l10Fault, retK_eq, cutK_eq, s_spec_l1In, h, hw, e0, okW]
      cases inB x 0 511 <;> simp
    · simp -implicitDefEqProofs [L_spec_l10Fault, retK_eq, cutK_eq, s_spec_l1In, h, hw, e0, okW]
      cases inB x 0 255 <;> simp
theorem l_impl_WayFault (r : List Int) : ∀ (p : List Int) (q n : Nat), r.length < q → n = (p ++ r).length → n < 1000 → L_impl_WayFault 0 q 0 [slO 0 n, .int .i64 n, .int .i64 p.length] [ownB eI6 (p ++ r)] = some (.int .i64 (if okW p.length r = true then 0 else 3), []) := by
  induction r with
  | nil =>
    intro p q n hq hn hl
    obtain ⟨q, rfl⟩ : ∃ n, q = n + 1 := ⟨q - 1, by omega⟩
    subst hn
    simp +contextual -implicitDefEqProofs [L_impl_WayFault, retK_eq, okW]
  | cons x r ih =>
    intro p q n hq hn hl
    obtain ⟨q, rfl⟩ : ∃ n, q = n + 1 := ⟨q - 1, by omega⟩
    have h := ih (p ++ [x]) q n (by simp at hq; omega) (by simpa using hn) hl
    simp at h
    have hn' : n = p.length + (r.length + 1) := by simpa using hn
    subst hn'
    simp at h
    have hw := wrap_next (n := p.length) (by omega)
    have hin : inB x 0 255 = true → inB x 0 511 = true := by simp [inB]; omega
    rcases Classical.propComplete (p = []) with e0 | e0 <;> cases e1 : inB x 0 255 <;> cases e2 : inB x 0 511 <;> simp [e1, e2] at hin <;>
      simp -implicitDefEqProofs [L_impl_WayFault, retK_eq, cutK_eq, s_impl_in, h, hw, e0, okW, e1, e2]
def wayF (w : WayT) : Int := if okW 0 (wayL w) = true then 0 else 3
theorem s_spec_l10Fault (w : WayT) (rest : List Value) : X_spec_l10Fault [wayP w rest] [] = some (.int .i64 (wayF w), []) := by
  have c1 := s_spec_l10List w rest
  have h := l_spec_l10Fault (wayL w) [] QQ (wayL w).length (by unfold QQ; simp [wayL_len]) rfl (by simp [wayL_len])
  simp at h
  simp +contextual -implicitDefEqProofs [X_spec_l10Fault, retK_eq, cutK_eq, c1, h, wayF]
theorem s_impl_WayFault (w : WayT) : X_impl_WayFault [wayV w] [] = some (.int .i64 (wayF w), []) := by
  have c1 := s_impl_Way_numbers w
  have h := l_impl_WayFault (wayL w) [] QQ (wayL w).length (by unfold QQ; simp [wayL_len]) rfl (by simp [wayL_len])
  simp at h
  simp +contextual -implicitDefEqProofs [X_impl_WayFault, retK_eq, cutK_eq, c1, h, wayF]
theorem sumL_le : ∀ (r : List (List Int)), (∀ x ∈ r, x.length < 1000000000) → sumL r ≤ r.length * 1000000000
  | [], _ => Nat.zero_le _
  | x :: r, h => by
    have h1 := sumL_le r (fun y hy => h y (by simp [hy]))
    have h2 := h x (by simp)
    simp only [sumL, List.length_cons]
    omega
theorem l_spec_l11Size (r : List (List Int)) (b c d : Value) (rest : List Value) : ∀ (p : List (List Int)) (q : Nat) (t : Nat), r.length < q → (p ++ r).length < 1000000000 → t + sumL r < 1000000000000 → L_spec_l11Size 0 q 0 [roP (frS eBS (p ++ r) :: b :: c :: d :: rest), .int .i64 t, .int .i64 p.length] [] = some (.int .i64 ((t + sumL r : Nat) : Int), []) := by
  induction r with
  | nil =>
    intro p q t hq hl ht
    obtain ⟨q, rfl⟩ : ∃ n, q = n + 1 := ⟨q - 1, by omega⟩
    simp +contextual -implicitDefEqProofs [L_spec_l11Size, retK_eq, sumL]
  | cons x r ih =>
    intro p q t hq hl ht
    obtain ⟨q, rfl⟩ : ∃ n, q = n + 1 := ⟨q - 1, by omega⟩
    simp only [sumL] at ht
    have h := ih (p ++ [x]) q (t + x.length) (by simp at hq; omega) (by simpa using hl) (by omega)
    simp at h
    have hx := ixa_mid eBS (sz := 1) rfl .i64 p x r
    have hw := wrap_next (n := p.length) (by simp at hl; omega)
    have hw2 : IntKind.i64.wrap ((t : Int) + x.length) = (t : Int) + x.length := wrap_i64 (by omega) (by omega)
    simp +contextual -implicitDefEqProofs [L_spec_l11Size, retK_eq, cutK_eq, hx, hw, hw2, h, sumL]
    omega
theorem l_impl_Line_size (r : List (List Int)) : ∀ (p : List (List Int)) (q n : Nat) (t : Nat), r.length < q → n = (p ++ r).length → n < 1000000000 → t + sumL r < 1000000000000 → L_impl_Line_size 0 q 0 [.int .i64 t, frS eBS (p ++ r), .int .i64 n, .int .i64 p.length] [] = some (.int .i64 ((t + sumL r : Nat) : Int), []) := by
  induction r with
  | nil =>
    intro p q n t hq hn hl ht
    obtain ⟨q, rfl⟩ : ∃ n, q = n + 1 := ⟨q - 1, by omega⟩
    subst hn
    simp +contextual -implicitDefEqProofs [L_impl_Line_size, retK_eq, sumL]
  | cons x r ih =>
    intro p q n t hq hn hl ht
    obtain ⟨q, rfl⟩ : ∃ n, q = n + 1 := ⟨q - 1, by omega⟩
    simp only [sumL] at ht
    have h := ih (p ++ [x]) q n (t + x.length) (by simp at hq; omega) (by simpa using hn) hl (by omega)
    simp at h
    have hn' : n = p.length + (r.length + 1) := by simpa using hn
    subst hn'
    simp at h
    have hx := ixa_mid eBS (sz := 1) rfl .i64 p x r
    have hw := wrap_next (n := p.length) (by omega)
    have hw2 : IntKind.i64.wrap ((t : Int) + x.length) = (t : Int) + x.length := wrap_i64 (by omega) (by omega)
    simp +contextual -implicitDefEqProofs [L_impl_Line_size, retK_eq, cutK_eq, hx, hw, hw2, h, sumL]
    omega
def LnT.size (l : LnT) : Nat := l.cur.length + sumL l.rows
theorem size_le {l : LnT} (hl : l.small) (h : l.rows.length ≤ 40) : l.cur.length + sumL l.rows < 1000000000000 := by
  have := sumL_le l.rows hl.2.1
  have := hl.2.2
  omega
theorem s_spec_l11Size (l : LnT) (hl : l.small) (h : l.rows.length ≤ 40) (rest : List Value) : X_spec_l11Size [lnP l rest] [] = some (.int .i64 (l.size : Nat), []) := by
  have h1 := l_spec_l11Size l.rows (frS eU8 l.cur) (.bool l.t) (.int .i64 l.n) rest [] QQ l.cur.length (by unfold QQ; omega) (by simp; omega) (size_le hl h)
  simp at h1
  simp +contextual -implicitDefEqProofs [X_spec_l11Size, retK_eq, cutK_eq, h1, LnT.size]
theorem s_impl_Line_size (l : LnT) (hl : l.small) (h : l.rows.length ≤ 40) : X_impl_Line_size [lnV l] [] = some (.int .i64 (l.size : Nat), []) := by
  have h1 := l_impl_Line_size l.rows [] QQ l.rows.length l.cur.length (by unfold QQ; omega) rfl (by omega) (size_le hl h)
  simp at h1
  simp +contextual -implicitDefEqProofs [X_impl_Line_size, retK_eq, cutK_eq, h1, LnT.size]
def lineF (l : LnT) : Int := if l.rows.length ≤ 40 ∧ l.size ≤ 40 then (if inB l.n 0 999 = true then 0 else 3) else 2
theorem s_spec_l11Fault (l : LnT) (hl : l.small) (rest : List Value) : X_spec_l11Fault [lnP l rest] [] = some (.int .i64 (lineF l), []) := by
  by_cases h : l.rows.length ≤ 40
  · have c1 := s_spec_l11Size l hl h rest
    have h' : ¬ (40 : Int) < l.rows.length := by omega
    by_cases h2 : l.size ≤ 40
    · have h2' : ¬ (40 : Int) < l.size := by omega
      cases e : inB l.n 0 999 <;> simp -implicitDefEqProofs [X_spec_l11Fault, retK_eq, s_spec_l1In, c1, h, h', h2, h2', e, lineF]
    · have h2' : (40 : Int) < l.size := by omega
      simp -implicitDefEqProofs [X_spec_l11Fault, retK_eq, s_spec_l1In, c1, h, h', h2, h2', lineF]
  · have h' : (40 : Int) < l.rows.length := by omega
    simp -implicitDefEqProofs [X_spec_l11Fault, retK_eq, s_spec_l1In, h, h', lineF]
theorem s_impl_LineFault (l : LnT) (hl : l.small) : X_impl_LineFault [lnV l] [] = some (.int .i64 (lineF l), []) := by
  by_cases h : l.rows.length ≤ 40
  · have c1 := s_impl_Line_size l hl h
    have h' : (l.rows.length : Int) ≤ 40 := by omega
    have h'' : ¬ (40 : Int) < l.rows.length := by omega
    by_cases h2 : l.size ≤ 40
    · have h2' : (l.size : Int) ≤ 40 := by omega
      have h2'' : ¬ (40 : Int) < l.size := by omega
      cases e : inB l.n 0 999 <;> simp -implicitDefEqProofs [X_impl_LineFault, retK_eq, s_impl_in, s_impl_unless, unl, s_impl_first, c1, h, h', h'', h2, h2', h2'', e, lineF]
    · have h2' : ¬ (l.size : Int) ≤ 40 := by omega
      have h2'' : (40 : Int) < l.size := by omega
      cases e : inB l.n 0 999 <;> simp -implicitDefEqProofs [X_impl_LineFault, retK_eq, s_impl_in, s_impl_unless, unl, s_impl_first, c1, h, h', h'', h2, h2', h2'', e, lineF]
  · have h' : ¬ (l.rows.length : Int) ≤ 40 := by omega
    have h'' : (40 : Int) < l.rows.length := by omega
    cases e : inB l.n 0 999 <;> simp -implicitDefEqProofs [X_impl_LineFault, retK_eq, s_impl_in, s_impl_unless, unl, s_impl_first, h, h', h'', e, lineF]
theorem s_spec_l11Asked (w : WayT) (l : LnT) (hl : l.small) (r1 r2 : List Value) : X_spec_l11Asked [wayP w r1, lnP l r2] [] = some (.int .i64 (if wayF w = 0 then lineF l else wayF w), []) := by
  have c1 := fun rest => s_spec_l10Fault w rest
  have c2 := fun rest => s_spec_l11Fault l hl rest
  by_cases h : wayF w = 0 <;> simp +contextual -implicitDefEqProofs [X_spec_l11Asked, retK_eq, c1, c2, h]
end Go.Ab
namespace Go.Ab
set_option linter.unusedSimpArgs false
set_option linter.unusedVariables false
set_option maxHeartbeats 4000000

/-! ## ReadLine: ways, copies -/
def cnB (w : WayT) : Bool := decide (andI .i64 w.a 1 = 1)
theorem and1 (a : Int) : andI .i64 a 1 = 0 ∨ andI .i64 a 1 = 1 := by
  have h : ∀ x : BitVec 64, x &&& 1#64 = 0#64 ∨ x &&& 1#64 = 1#64 := fun x => by
    have h1 : (x &&& 1#64).toNat = x.toNat % 2 := by
      rw [BitVec.toNat_and]
      exact Nat.and_one_is_mod _
    rcases Nat.mod_two_eq_zero_or_one x.toNat with h2 | h2
    · left
      apply BitVec.eq_of_toNat_eq
      rw [h1, h2]
      rfl
    · right
      apply BitVec.eq_of_toNat_eq
      rw [h1, h2]
      rfl
  unfold andI
  rcases h (BitVec.ofInt 64 a) with e | e
  · left
    show IntKind.i64.wrap ((BitVec.ofInt 64 a &&& 1#64).toNat : Int) = 0
    rw [e]
    rfl
  · right
    show IntKind.i64.wrap ((BitVec.ofInt 64 a &&& 1#64).toNat : Int) = 1
    rw [e]
    rfl
theorem s_spec_l10Has (w : WayT) (rest : List Value) : X_spec_l10Has [wayP w rest, .int .i64 1] [] = some (.bool (cnB w), []) := by
  rcases and1 w.a with h | h <;> simp -implicitDefEqProofs [X_spec_l10Has, retK_eq, cnB, h]
theorem s_impl_Way_has (w : WayT) : X_impl_Way_has [wayV w, .int .i64 1] [] = some (.bool (cnB w), []) := by
  rcases and1 w.a with h | h <;> simp -implicitDefEqProofs [X_impl_Way_has, retK_eq, cnB, h]
theorem s_spec_l1Copy (l : List Int) (h : l.length < 1000000000) : X_spec_l1Copy [frS eU8 l] [] = some (slO 0 l.length, [ownB eU8 l]) := by
  have p1 := fun m n o c => apL_frS (E := eU8) (m := m) (sz := 1) (bytes := 1) (n := n) (o := o) (len := 0) (c := c) (l := l) rfl (by omega) (by omega)
  simp -implicitDefEqProofs [X_spec_l1Copy, retK_eq, p1]
theorem apL_nilsl {m : Mem} {sz bytes n2 o2 c2 : Nat} (hb : bytes ≤ 100000) : apL m sz bytes (.slice none 0 0) (.slice (some ⟨n2, o2, none⟩) 1 c2) = bo (fun cs => some (.slice (some ⟨m.length, 0, none⟩) 1 1, m ++ [⟨cs, sz, true, true⟩])) (rdM m[n2]? o2 (1 * sz)) := by
  show (ob (rd m n2 o2 (1 * sz)) fun cs => appendIn m sz bytes (.slice none 0 0) cs 1) = _
  rw [rd_rdM]
  cases rdM m[n2]? o2 (1 * sz) with
  | none => rfl
  | some cs =>
    show appendIn m sz bytes (.slice none 0 0) cs 1 = _
    unfold appendIn
    rw [if_neg (by omega), if_pos ⟨by omega, by omega⟩]
    rfl
abbrev nilW : Value := .slice none 0 0
abbrev slQ (b o n c : Nat) : Value := .slice (some ⟨b, o, none⟩) n c
theorem l_spec_l11Copy (l0 : LnT) (cur : List Int) (t : Bool) (n : Int) (r : List (List Int)) : ∀ (p : List (List Int)) (q : Nat), p ≠ [] → r.length < q → (p ++ r).length < 1000000 → (∀ x ∈ r, x.length < 1000000000) → L_spec_l11Copy 0 q 0 [lnV l0, ptr 0, ptr 1, ptr 2, .int .i64 p.length] [blk [frS eBS (p ++ r), frS eU8 cur, .bool t, .int .i64 n], blk [nilW, nilW, .bool false, .int .i64 0], blk [slO 3 p.length, frS eU8 cur, .bool t, .int .i64 n], ownB eBS p] = some (.agg #[slO 0 (p ++ r).length, frS eU8 cur, .bool t, .int .i64 n], [ownB eBS (p ++ r)]) := by
  induction r with
  | nil =>
    intro p q hp hq hl hb
    obtain ⟨q, rfl⟩ : ∃ n, q = n + 1 := ⟨q - 1, by omega⟩
    simp -implicitDefEqProofs [L_spec_l11Copy, retK_eq]
  | cons x r ih =>
    intro p q hp hq hl hb
    obtain ⟨q, rfl⟩ : ∃ n, q = n + 1 := ⟨q - 1, by omega⟩
    have h := ih (p ++ [x]) q (by simp) (by simp at hq; omega) (by simpa using hl) (fun y hy => hb y (by simp [hy]))
    have e1 : p ++ [x] ++ r = p ++ x :: r := by simp
    have e2 : (p ++ [x]).length = p.length + 1 := by simp
    rw [e1, e2] at h
    rw [← h]
    have hx := ixa_mid eBS (sz := 1) rfl .i64 p x r
    have hw := wrap_next (n := p.length) (by simp at hl; omega)
    have hc := s_spec_l1Copy x (hb x (by simp))
    have p1 := fun m n o c n2 o2 c2 => apL_sl (m := m) (sz := 1) (bytes := 24) (n := n) (o := o) (len := p.length) (c := c) (n2 := n2) (o2 := o2) (len2 := 1) (c2 := c2)
    have p2 := fun m n cs k => apB_own (E := eBS) (m := m) (l := p) (n := n) (sz := 1) (cs := cs) (k := k) rfl
    have hb' : p.length + 1 < 1000000000 := by simp at hl; omega
    have hrm : rdM (some ⟨[frS eU8 x], 1, true, true⟩) 0 1 = some [frS eU8 x] := rfl
    have k2 : (⟨cellsE eBS p ++ [frS eU8 x], 1, true, true⟩ : Blk) = ownB eBS (p ++ [x]) := mk_own2 eBS p [x] 1 rfl
    simp -implicitDefEqProofs [L_spec_l11Copy, cutK_eq, hx, hw, hc, p1, p2, hb', hrm, k2]
theorem s_spec_l11Copy (l : LnT) (hs : l.rows.length < 1000000) (hb : ∀ x ∈ l.rows, x.length < 1000000000) (hc : l.cur.length < 1000000000) : X_spec_l11Copy [lnV l] [] = some (.agg #[if l.rows = [] then nilW else slO 0 l.rows.length, frS eU8 l.cur, .bool l.t, .int .i64 l.n], if l.rows = [] then [] else [ownB eBS l.rows]) := by
  have h1 := s_spec_l1Copy l.cur hc
  obtain ⟨rows, cur, t, n⟩ := l
  simp only at *
  cases rows with
  | nil =>
    obtain ⟨q, hq⟩ : ∃ q, QQ = q + 1 := ⟨QQ - 1, by unfold QQ; omega⟩
    simp -implicitDefEqProofs [X_spec_l11Copy, L_spec_l11Copy, retK_eq, cutK_eq, h1, hq]
  | cons x r =>
    obtain ⟨q, hq⟩ : ∃ q, QQ = q + 1 := ⟨QQ - 1, by unfold QQ; omega⟩
    have h := l_spec_l11Copy ⟨x :: r, cur, t, n⟩ cur t n r [x] q (by simp) (by simp at hs; unfold QQ at hq; omega) (by simpa using hs) (fun y hy => hb y (by simp [hy]))
    have hx := ixa_mid eBS (sz := 1) rfl .i64 [] x r
    have h2 := s_spec_l1Copy x (hb x (by simp))
    have hrm : rdM (some ⟨[frS eU8 x], 1, true, true⟩) 0 1 = some [frS eU8 x] := rfl
    have p1 := fun m n2 o2 c2 => apL_nilsl (m := m) (sz := 1) (bytes := 24) (n2 := n2) (o2 := o2) (c2 := c2) (by omega)
    have k2 : (⟨[frS eU8 x], 1, true, true⟩ : Blk) = ownB eBS [x] := rfl
    have w1 : IntKind.i64.wrap 1 = 1 := rfl
    simp at h hx
    simp -implicitDefEqProofs [X_spec_l11Copy, L_spec_l11Copy, retK_eq, cutK_eq, h1, hq, h2, hx, hrm, p1, w1]
    exact h
end Go.Ab
namespace Go.Ab
set_option linter.unusedSimpArgs false
set_option linter.unusedVariables false
set_option maxHeartbeats 4000000

/-! ## Lines of the program: their copy -/
def elK (x : List Int) : El Int := ⟨[], if x = [] then .no (roS 0 []) else .ow [] x [] 0 x.length, []⟩
theorem elK_ok (x : List Int) : (elK x).ok eU8 := by
  refine ⟨rfl, rfl, ?_⟩
  unfold elK
  split
  · exact .inr rfl
  · exact fun _ => rfl
theorem ok_K (l : List (List Int)) : ∀ e ∈ l.map elK, e.ok eU8 := by
  intro e he
  obtain ⟨x, _, rfl⟩ := List.mem_map.1 he
  exact elK_ok x
theorem famX_Klen (k : Nat) (l : List (List Int)) : (famX k (l.map elK)).length = l.length := by
  induction l generalizing k with
  | nil => rfl
  | cons x r ih => simp [famX, elK, ih]
theorem famN_K (l : List (List Int)) : famN (l.map elK) ≤ l.length := by
  induction l with
  | nil => exact Nat.le_refl _
  | cons x r ih =>
    have : (elK x).p.n ≤ 1 := by unfold elK; split <;> simp [Pc.n]
    simp only [List.map_cons, famN, List.length_cons]
    omega
abbrev zLn : Blk := blk [nilW, nilW, .bool false, .int .i64 0]
theorem nd3 {b k y j : Nat} (hb : 2 ≤ b) (h1 : b + k ≤ y) (h2 : b + k ≤ j) (h3 : y ≠ j) : (0 :: 1 :: j :: (List.range' b k ++ [y])).Nodup := by
  have := nod_row1 (b := b) (k := k) h1 h2 h3
  refine List.nodup_cons.2 ⟨fun h => ?_, List.nodup_cons.2 ⟨fun h => ?_, this⟩⟩
  · simp at h; omega
  · simp at h; omega
theorem nd3' {b k j : Nat} (hb : 2 ≤ b) (h2 : b + k ≤ j) : (0 :: 1 :: j :: (List.range' b k ++ [])).Nodup := by
  have := nod_row0 (b := b) (k := k) h2
  refine List.nodup_cons.2 ⟨fun h => ?_, List.nodup_cons.2 ⟨fun h => ?_, this⟩⟩
  · simp at h; omega
  · simp at h; omega
theorem l_impl_clone_step (rows0 : List (List Int)) (cur : List Int) (t : Bool) (n : Int) (x : List Int) (r p : List (List Int)) (q : Nat) (hl : (p ++ x :: r).length < 1000000) (hx0 : x.length < 1000000000) : L_impl_Line_clone 0 (q + 1) 0 [ptr 0, ptr 1, slO 2 p.length, frS eBS (p ++ x :: r), .int .i64 (p ++ x :: r).length, .int .i64 p.length] (blk [frS eBS rows0, frS eU8 cur, .bool t, .int .i64 n] :: zLn :: famB 3 1 (p.map elK) :: famM eU8 (p.map elK)) = L_impl_Line_clone 0 q 0 [ptr 0, ptr 1, slO 2 (p.length + 1), frS eBS (p ++ x :: r), .int .i64 (p ++ x :: r).length, .int .i64 (p.length + 1)] (blk [frS eBS rows0, frS eU8 cur, .bool t, .int .i64 n] :: zLn :: famB 3 1 ((p ++ [x]).map elK) :: famM eU8 ((p ++ [x]).map elK)) := by
  have hx := ixa_mid eBS (sz := 1) rfl .i64 p x r
  have hw := wrap_next (n := p.length) (by simp at hl; omega)
  have e5 : (p.length : Int) < ((p ++ x :: r).length : Int) := by simp
  have hF : (famM eU8 (p.map elK)).length = famN (p.map elK) := famM_len eU8 _
  have hC : (famX 3 (p.map elK)).length = p.length := famX_Klen 3 p
  have hN := famN_K p
  have hp2 : p.length < 1000000 := by simp at hl; omega
  have ho' : p.length + 1 < 1000000000 := by omega
  have p1 := fun m n o c n2 o2 len c2 => apL_sl (m := m) (sz := 1) (bytes := 24) (n := n) (o := o) (len := len) (c := c) (n2 := n2) (o2 := o2) (len2 := 1) (c2 := c2)
  have e4 : (p ++ [x]).map elK = p.map elK ++ [elK x] := by simp
  rw [e4]
  simp only [famB]
  generalize hR : L_impl_Line_clone 0 q 0 _ _ = RES
  generalize hFF : famM eU8 (p.map elK) = F at *
  generalize hCC : famX 3 (p.map elK) = C at *
  generalize hNN : famN (p.map elK) = N at *
  generalize hLL : ((p ++ x :: r).length : Int) = LL at *
  have hIX : famI (List.range' 3 N) (p.map elK) = C := by rw [← hNN, famI_range, hCC]
  have hrd := fun o => rdB_all (C := C) (s := 1) (o := o) hC
  by_cases hd : x = []
  · subst hd
    have hel : elK [] = ⟨[], .no (roS 0 []), []⟩ := rfl
    have hrm : rdM (some ⟨[roS 0 []], 1, true, true⟩) 0 1 = some [roS 0 []] := rfl
    have hfin : ∀ pv, cutK 0 (blk [frS eBS rows0, frS eU8 cur, .bool t, .int .i64 n] :: zLn :: ⟨C, 1, true, false⟩ :: (F ++ [⟨[roS 0 []], 1, true, true⟩, ⟨C ++ [roS 0 []], 1, true, true⟩])) pv [ptr 0, ptr 1, slO (N + 3 + 1) (p.length + 1), frS eBS (p ++ [] :: r), .int .i64 LL, .int .i64 (p.length + 1)] (L_impl_Line_clone 0 q 0) = RES := by
      intro pv
      have H : Fam eU8 (blk [frS eBS rows0, frS eU8 cur, .bool t, .int .i64 n] :: zLn :: ⟨C, 1, true, false⟩ :: (F ++ [⟨[roS 0 []], 1, true, true⟩, ⟨C ++ [roS 0 []], 1, true, true⟩])) (N + 3 + 1) 1 (List.range' 3 N ++ []) (p.map elK ++ [elK []]) := by
        refine Fam.snoc eU8 (j := 0) (m := []) (by rw [hNN]; simp) (ok_K p) (elK_ok []) (fun i n b h1 h2 => in_row [_, _, _] F _ rfl h1 (by rwa [hFF] at h2)) (fun i n b h1 h2 => by simp at h1) rfl (nod_row0 (by omega)) (cs := C ++ [roS 0 []]) ?_ (at_row [_, _, _] F _ (j := 1) (by simp; omega) rfl)
        rw [hIX, hel]
        rfl
      obtain ⟨c1, c2⟩ := H.can3a eU8 (p := 0) (r := 1) rfl rfl rfl rfl (nd3' (by omega) (by omega)) (by simp; omega)
      rw [cut_of c1 c2 (vs0 := [ptr 0, ptr 1, slO 2 (p.length + 1), frS eBS (p ++ [] :: r), .int .i64 LL, .int .i64 (p.length + 1)]) (by simp) (by simp)]
      rw [← hR]
      simp [famB]
    have cl0 : ∀ m, cloneV 1 m (frS eU8 []) = some (roS 0 [], m) := fun m => rfl
    simp (maxSteps := 400000) -implicitDefEqProofs [L_impl_Line_clone, hx, hw, p1, ho', hF, hC, hrd, hrm, e5, cl0, hfin]
  · have hel : elK x = ⟨[], .ow [] x [] 0 x.length, []⟩ := by unfold elK; rw [if_neg hd]
    have hrm : ∀ k : Nat, rdM (some ⟨[slO k x.length], 1, true, true⟩) 0 1 = some [slO k x.length] := fun k => rfl
    have cl := fun m => cloneV_frS eU8 eU8_hard (sz := 1) rfl m x hd hx0
    have hfin : ∀ pv, cutK 0 (blk [frS eBS rows0, frS eU8 cur, .bool t, .int .i64 n] :: zLn :: ⟨C, 1, true, false⟩ :: (F ++ [ownB eU8 x, ⟨[slO (N + 2 + 1) x.length], 1, true, true⟩, ⟨C ++ [slO (N + 2 + 1) x.length], 1, true, true⟩])) pv [ptr 0, ptr 1, slO (N + 4 + 1) (p.length + 1), frS eBS (p ++ x :: r), .int .i64 LL, .int .i64 (p.length + 1)] (L_impl_Line_clone 0 q 0) = RES := by
      intro pv
      have H : Fam eU8 (blk [frS eBS rows0, frS eU8 cur, .bool t, .int .i64 n] :: zLn :: ⟨C, 1, true, false⟩ :: (F ++ [ownB eU8 x, ⟨[slO (N + 2 + 1) x.length], 1, true, true⟩, ⟨C ++ [slO (N + 2 + 1) x.length], 1, true, true⟩])) (N + 4 + 1) 1 (List.range' 3 N ++ [N + 2 + 1]) (p.map elK ++ [elK x]) := by
        refine Fam.snoc eU8 (j := 0) (m := []) (by rw [hNN]; simp) (ok_K p) (elK_ok x) (fun i n b h1 h2 => in_row [_, _, _] F _ rfl h1 (by rwa [hFF] at h2)) (fun i n b h1 h2 => ?_) (by rw [hel]; rfl) (nod_row1 (by omega) (by omega) (by omega)) (cs := C ++ [slO (N + 2 + 1) x.length]) ?_ (at_row [_, _, _] F _ (j := 2) (by simp; omega) rfl)
        · have hi := (List.getElem?_eq_some_iff.1 h1).1
          have : i = 0 := by simpa using hi
          subst this
          simp at h1
          subst h1
          rw [hel] at h2
          have h2 : some (ownB eU8 ([] ++ (x ++ []))) = some b := h2
          rw [← h2, List.nil_append, List.append_nil]
          exact at_row [_, _, _] F _ (j := 0) (by simp; omega) rfl
        · rw [hIX, hel]
          rfl
      obtain ⟨c1, c2⟩ := H.can3a eU8 (p := 0) (r := 1) rfl rfl rfl rfl (nd3 (by omega) (by omega) (by omega) (by omega)) (by simp; omega)
      rw [cut_of c1 c2 (vs0 := [ptr 0, ptr 1, slO 2 (p.length + 1), frS eBS (p ++ x :: r), .int .i64 LL, .int .i64 (p.length + 1)]) (by simp) (by simp)]
      rw [← hR]
      simp [famB]
    simp (maxSteps := 400000) -implicitDefEqProofs [L_impl_Line_clone, hx, hw, p1, ho', hF, hC, hrd, hrm, e5, cl, hfin]
theorem l_impl_clone_rows (rows0 : List (List Int)) (cur : List Int) (t : Bool) (n : Int) (r : List (List Int)) : ∀ (p : List (List Int)) (q : Nat), (p ++ r).length < 1000000 → (∀ x ∈ r, x.length < 1000000000) → L_impl_Line_clone 0 (q + r.length) 0 [ptr 0, ptr 1, slO 2 p.length, frS eBS (p ++ r), .int .i64 (p ++ r).length, .int .i64 p.length] (blk [frS eBS rows0, frS eU8 cur, .bool t, .int .i64 n] :: zLn :: famB 3 1 (p.map elK) :: famM eU8 (p.map elK)) = L_impl_Line_clone 0 q 0 [ptr 0, ptr 1, slO 2 (p ++ r).length, frS eBS (p ++ r), .int .i64 (p ++ r).length, .int .i64 (p ++ r).length] (blk [frS eBS rows0, frS eU8 cur, .bool t, .int .i64 n] :: zLn :: famB 3 1 ((p ++ r).map elK) :: famM eU8 ((p ++ r).map elK)) := by
  induction r with
  | nil => intro p q hl hb; simp
  | cons x r ih =>
    intro p q hl hb
    have h := ih (p ++ [x]) q (by simpa using hl) (fun y hy => hb y (by simp [hy]))
    have e1 : p ++ [x] ++ r = p ++ x :: r := by simp
    have e2 : (p ++ [x]).length = p.length + 1 := by simp
    rw [e1, e2] at h
    rw [List.length_cons, show q + (r.length + 1) = q + r.length + 1 by omega, l_impl_clone_step rows0 cur t n x r p (q + r.length) hl (hb x (by simp))]
    exact_mod_cast h
end Go.Ab
namespace Go.Ab
set_option linter.unusedSimpArgs false
set_option linter.unusedVariables false
set_option maxHeartbeats 4000000

/-! ## Lines of the program: the whole copy -/
def edV (k : Nat) (l : List Int) : Value := if l = [] then roS 0 [] else slO k l.length
def edM (l : List Int) : Mem := if l = [] then [] else [ownB eU8 l]
abbrev lnW (k : Nat) (l : LnT) : Value := .agg #[slO k l.rows.length, edV (k + 1) l.cur, .bool l.t, .int .i64 l.n]
def lnM (l : LnT) : Mem := famB (1 + (edM l.cur).length) 1 (l.rows.map elK) :: (edM l.cur ++ famM eU8 (l.rows.map elK))
theorem s_impl_Line_clone (l : LnT) (hl : l.rows.length < 1000000) (hb : ∀ x ∈ l.rows, x.length < 1000000000) (hc : l.cur.length < 1000000000) : X_impl_Line_clone [lnV l] [] = some (lnW 0 l, lnM l) := by
  obtain ⟨rows, cur, t, n⟩ := l
  simp only at hl hb hc
  obtain ⟨q, hq⟩ : ∃ q, QQ = q + 1 + rows.length := ⟨QQ - 1 - rows.length, by unfold QQ; omega⟩
  have h := l_impl_clone_rows rows cur t n rows [] (q + 1) (by simpa using hl) hb
  simp only [List.nil_append, List.length_nil] at h
  have hN := famN_K rows
  have hF : (famM eU8 (rows.map elK)).length = famN (rows.map elK) := famM_len eU8 _
  have hX : X_impl_Line_clone [lnV ⟨rows, cur, t, n⟩] [] = L_impl_Line_clone 0 QQ 0 [ptr 0, ptr 1, slO 2 0, frS eBS rows, .int .i64 rows.length, .int .i64 0] [blk [frS eBS rows, frS eU8 cur, .bool t, .int .i64 n], zLn, ownB eBS []] := by
    simp (maxSteps := 400000) -implicitDefEqProofs [X_impl_Line_clone, cutK_eq]
    rfl
  rw [hX, hq]
  refine Eq.trans ?_ (Eq.trans h ?_)
  · rfl
  · by_cases hd : cur = []
    · subst hd
      have hret : ∀ pv b1, retK 0 (blk [slO 2 rows.length, roS 0 [], .bool t, .int .i64 n] :: b1 :: famB 3 1 (rows.map elK) :: famM eU8 (rows.map elK)) pv (.agg #[slO 2 rows.length, roS 0 [], .bool t, .int .i64 n]) = some (lnW 0 ⟨rows, [], t, n⟩, lnM ⟨rows, [], t, n⟩) := by
        intro pv b1
        have H : Fam eU8 (blk [slO 2 rows.length, roS 0 [], .bool t, .int .i64 n] :: b1 :: famB 3 1 (rows.map elK) :: famM eU8 (rows.map elK)) 2 1 (List.range' 3 (famN (rows.map elK))) (rows.map elK) := Fam.of_row eU8 rfl (fun i x h => by rw [show 3 + i = i + 1 + 1 + 1 by omega]; exact h) (by omega) (ok_K rows)
        obtain ⟨c1, c2⟩ := H.can1 eU8 (by simp; omega)
        exact ret_of c1 c2 (by simp) (by simp [edV])
      have cl0 : ∀ m, cloneV 1 m (frS eU8 []) = some (roS 0 [], m) := fun m => rfl
      simp (maxSteps := 400000) -implicitDefEqProofs [L_impl_Line_clone, cl0, hret]
    · have cl := fun m => cloneV_frS eU8 eU8_hard (sz := 1) rfl m cur hd hc
      have hret : ∀ pv b1, retK 0 (blk [slO 2 rows.length, slO (famN (rows.map elK) + 2 + 1) cur.length, .bool t, .int .i64 n] :: b1 :: famB 3 1 (rows.map elK) :: (famM eU8 (rows.map elK) ++ [ownB eU8 cur])) pv (.agg #[slO 2 rows.length, slO (famN (rows.map elK) + 2 + 1) cur.length, .bool t, .int .i64 n]) = some (lnW 0 ⟨rows, cur, t, n⟩, lnM ⟨rows, cur, t, n⟩) := by
        intro pv b1
        have H : Fam eU8 (blk [slO 2 rows.length, slO (famN (rows.map elK) + 2 + 1) cur.length, .bool t, .int .i64 n] :: b1 :: famB 3 1 (rows.map elK) :: (famM eU8 (rows.map elK) ++ [ownB eU8 cur])) 2 1 (List.range' 3 (famN (rows.map elK))) (rows.map elK) := Fam.of_row eU8 rfl (fun i x h => by
            have := in_row [blk [slO 2 rows.length, slO (famN (rows.map elK) + 2 + 1) cur.length, .bool t, .int .i64 n], b1, famB 3 1 (rows.map elK)] (famM eU8 (rows.map elK)) [ownB eU8 cur] (b := 3) (k := i + 1) (i := i) (n := 3 + i) rfl (by rw [List.getElem?_range' (by omega)]; simp) h
            exact this) (by omega) (ok_K rows)
        have hy := at_row [blk [slO 2 rows.length, slO (famN (rows.map elK) + 2 + 1) cur.length, .bool t, .int .i64 n], b1, famB 3 1 (rows.map elK)] (famM eU8 (rows.map elK)) [ownB eU8 cur] (n := famN (rows.map elK) + 2 + 1) (j := 0) (by simp [hF]; omega) rfl
        obtain ⟨c1, c2⟩ := H.can1y eU8 eU8 (y := famN (rows.map elK) + 2 + 1) (l := cur) hy (by
          refine List.nodup_cons.2 ⟨fun h => ?_, List.nodup_cons.2 ⟨fun h => ?_, List.nodup_range'⟩⟩
          · rcases List.mem_cons.1 h with h | h
            · omega
            · rw [mem_range'] at h; omega
          · rw [mem_range'] at h; omega) (by simp; omega)
        have eM : lnM ⟨rows, cur, t, n⟩ = famB 2 1 (rows.map elK) :: ownB eU8 cur :: famM eU8 (rows.map elK) := by simp [lnM, edM, hd]
        rw [eM]
        exact ret_of c1 c2 (by simp) (by simp [edV, hd])
      simp (maxSteps := 400000) -implicitDefEqProofs [L_impl_Line_clone, cl, hF, hret]
end Go.Ab
namespace Go.Ab
set_option linter.unusedSimpArgs false
set_option linter.unusedVariables false
set_option maxHeartbeats 4000000

/-! ## A call on a line in a box, with another block between -/
abbrev lbB (k a len c : Nat) (cur : List Int) (t : Bool) (m : Int) : Blk := blk [slQ k a len c, edV (k + 1) cur, .bool t, .int .i64 m]
theorem OkM.retS {m : Mem} (H : OkM m) (hK : m.length + 1 + nms m < 4194304) {z o n c : Nat} (hz : z < m.length) (pv : List Value) : retK m.length m pv (slQ z o n c) = some (slQ z o n c, m) := by
  have hp : preB 0 m.length (List.range m.length) = true := by
    have := pre_range' m.length 0 []
    rwa [List.append_nil, ← List.range_eq_range'] at this
  have hr : rnV 8 inert (ixOf (List.range m.length)) (slQ z o n c) = some (slQ z o n c) := by
    rw [rn_inert_sl, ixOf_get List.nodup_range (List.getElem?_range hz)]
    rfl
  rw [retK_eq, show nmV 8 (slQ z o n c) = [z] from rfl, H.reach [z] (by simpa using hz) (by simpa using hK), bo_some, if_pos ⟨hp, by rw [H.ent]; simp⟩, hr, bo_some, H.loc, bo_some]
theorem edM_own (cur : List Int) : ∀ b ∈ edM cur, ∃ l : List Int, b = ownB eU8 l := by
  intro b hb
  unfold edM at hb
  split at hb
  · cases hb
  · exact ⟨cur, by simpa using hb⟩
theorem own_all (cur : List Int) (es : List (El Int)) : ∀ i, i < (edM cur ++ famM eU8 es).length → ∃ l : List Int, (edM cur ++ famM eU8 es)[i]? = some (ownB eU8 l) := by
  intro i hi
  have hm := List.getElem_mem hi
  rw [List.getElem?_eq_getElem hi]
  rcases List.mem_append.1 hm with h | h
  · obtain ⟨l, e⟩ := edM_own cur _ h
    exact ⟨l, by rw [e]⟩
  · obtain ⟨j, hj, e⟩ := List.getElem_of_mem h
    obtain ⟨l, e2⟩ := fam_own eU8 es j _ (List.getElem?_eq_getElem hj)
    exact ⟨l, by rw [← e, e2]⟩
theorem nd2 {a b k n : Nat} (h1 : a < b) (h2 : b < k) : (a :: b :: List.range' k n).Nodup := by
  refine List.nodup_cons.2 ⟨fun h => ?_, List.nodup_cons.2 ⟨fun h => ?_, List.nodup_range'⟩⟩
  · rcases List.mem_cons.1 h with h | h
    · omega
    · rw [mem_range'] at h; omega
  · rw [mem_range'] at h; omega
theorem nd4 {a b c k n : Nat} (h1 : a < b) (h2 : b < c) (h3 : c < k) : (a :: b :: c :: List.range' k n).Nodup := by
  refine List.nodup_cons.2 ⟨fun h => ?_, nd2 h2 h3⟩
  rcases List.mem_cons.1 h with h | h
  · omega
  · rcases List.mem_cons.1 h with h | h
    · omega
    · rw [mem_range'] at h; omega
theorem line_reach (A0 A1 o3 : Blk) (a len c : Nat) (cur : List Int) (t : Bool) (m : Int) (es : List (El Int)) (hok : ∀ e ∈ es, e.ok eU8) (hn : famN es < 4000000) :
    reachF 4194304 (A0 :: A1 :: lbB 4 a len c cur t m :: o3 :: famB (5 + (edM cur).length) 1 es :: (edM cur ++ famM eU8 es)) [2] [] = some (2 :: 4 :: List.range' 5 ((edM cur).length + famN es)) ∧
    locM (A0 :: A1 :: lbB 4 a len c cur t m :: o3 :: famB (5 + (edM cur).length) 1 es :: (edM cur ++ famM eU8 es)) (2 :: 4 :: List.range' 5 ((edM cur).length + famN es)) (2 :: 4 :: List.range' 5 ((edM cur).length + famN es)) = some (lbB 1 a len c cur t m :: famB (2 + (edM cur).length) 1 es :: (edM cur ++ famM eU8 es)) := by
  by_cases hd : cur = []
  · subst hd
    have e0 : edM [] = [] := rfl
    rw [e0]
    simp only [List.length_nil, Nat.add_zero, Nat.zero_add, List.nil_append]
    have H : Fam eU8 (A0 :: A1 :: lbB 4 a len c [] t m :: o3 :: famB 5 1 es :: famM eU8 es) 4 1 (List.range' 5 (famN es)) es := Fam.of_row eU8 rfl (fun i x h => by rw [show 5 + i = i + 1 + 1 + 1 + 1 + 1 by omega]; exact h) (by omega) hok
    have hnm : nmB (famB 5 1 es) = List.range' 5 (famN es) := by
      have := H.nmB
      rwa [famI_range] at this
    constructor
    · rw [reach_one (n := 2) (b := lbB 4 a len c [] t m) (l := [4]) rfl (by simp) (by simp [edV]), List.nil_append, reach_one (n := 4) (b := famB 5 1 es) rfl (by simp) hnm, List.nil_append]
      exact H.tail eU8 [2, 4] (fun n hn => by rw [mem_range'] at hn; simp; omega) (by simp; omega)
    · have hl2 : locB (2 :: 4 :: List.range' 5 (famN es)) (lbB 4 a len c [] t m) = some (lbB 1 a len c [] t m) := by simp [edV]
      have hl4 : locB (2 :: 4 :: List.range' 5 (famN es)) (famB 5 1 es) = some (famB 2 1 es) := by
        have := H.locO eU8 (pre := [2, 4]) (nd2 (by omega) (by omega))
        rwa [famI_range] at this
      rw [loc_one (n := 2) rfl hl2, loc_one (n := 4) rfl hl4, H.locI]
      rfl
  · have e0 : edM cur = [ownB eU8 cur] := by unfold edM; rw [if_neg hd]
    have e1 : ∀ k, edV k cur = slO k cur.length := fun k => by unfold edV; rw [if_neg hd]
    have eL : ∀ k, lbB k a len c cur t m = blk [slQ k a len c, slO (k + 1) cur.length, .bool t, .int .i64 m] := fun k => by
      show blk [slQ k a len c, edV (k + 1) cur, .bool t, .int .i64 m] = _
      rw [e1]
    rw [e0, eL 4, eL 1]
    simp only [List.length_singleton, List.singleton_append, show 5 + 1 = 6 from rfl, show 2 + 1 = 3 from rfl, show 1 + 1 = 2 from rfl, show 4 + 1 = 5 from rfl]
    have H : Fam eU8 (A0 :: A1 :: blk [slQ 4 a len c, slO 5 cur.length, .bool t, .int .i64 m] :: o3 :: famB 6 1 es :: ownB eU8 cur :: famM eU8 es) 4 1 (List.range' 6 (famN es)) es := Fam.of_row eU8 rfl (fun i x h => by rw [show 6 + i = i + 1 + 1 + 1 + 1 + 1 + 1 by omega]; exact h) (by omega) hok
    have hnm : nmB (famB 6 1 es) = List.range' 6 (famN es) := by
      have := H.nmB
      rwa [famI_range] at this
    have er : List.range' 5 (1 + famN es) = 5 :: List.range' 6 (famN es) := by rw [Nat.add_comm, List.range'_succ]
    rw [er]
    constructor
    · rw [reach_one (n := 2) (b := blk [slQ 4 a len c, slO 5 cur.length, .bool t, .int .i64 m]) (l := [4, 5]) rfl (by simp) (by simp), List.nil_append, reach_one (n := 4) (b := famB 6 1 es) rfl (by simp) hnm, List.cons_append, reach_one (n := 5) (b := ownB eU8 cur) (l := []) rfl (by simp) (by simp), List.append_nil]
      exact H.tail eU8 [2, 4, 5] (fun n hn => by rw [mem_range'] at hn; simp; omega) (by simp; omega)
    · have hl2 : locB (2 :: 4 :: 5 :: List.range' 6 (famN es)) (blk [slQ 4 a len c, slO 5 cur.length, .bool t, .int .i64 m]) = some (blk [slQ 1 a len c, slO 2 cur.length, .bool t, .int .i64 m]) := by simp
      have hl4 : locB (2 :: 4 :: 5 :: List.range' 6 (famN es)) (famB 6 1 es) = some (famB 3 1 es) := by
        have := H.locO eU8 (pre := [2, 4, 5]) (nd4 (by omega) (by omega) (by omega))
        rwa [famI_range] at this
      rw [loc_one (n := 2) rfl hl2, loc_one (n := 4) rfl hl4, loc_one (n := 5) rfl (locB_own eU8 _ cur), H.locI]
      rfl
end Go.Ab
namespace Go.Ab
set_option linter.unusedSimpArgs false
set_option linter.unusedVariables false
set_option maxHeartbeats 4000000

/-! ## The call itself -/
theorem rcall_line {X : List Value → Mem → Option VM} (A0 A1 o3 : Blk) (a len c a' len' c' : Nat) (cur : List Int) (t : Bool) (m n : Int) (es es' : List (El Int)) (hok : ∀ e ∈ es, e.ok eU8) (hok' : ∀ e ∈ es', e.ok eU8) (hN : famN es' = famN es) (hM : famM eU8 es' = famM eU8 es) (hn : famN es < 4000000) (v v' : Value)
    (hv : (v = roS 0 [] ∧ v' = roS 0 []) ∨ ∃ j k cc, j < famN es ∧ v = slQ (2 + (edM cur).length + j) 0 k cc ∧ v' = slQ (5 + (edM cur).length + j) 0 k cc)
    (hX : X [ptr 0, .int .i64 n] (lbB 1 a len c cur t m :: famB (2 + (edM cur).length) 1 es :: (edM cur ++ famM eU8 es)) = some (v, lbB 1 a' len' c' cur t m :: famB (2 + (edM cur).length) 1 es' :: (edM cur ++ famM eU8 es))) :
    rcall X [ptr 2, .int .i64 n] (A0 :: A1 :: lbB 4 a len c cur t m :: o3 :: famB (5 + (edM cur).length) 1 es :: (edM cur ++ famM eU8 es)) = some (v', A0 :: A1 :: lbB 4 a' len' c' cur t m :: o3 :: famB (5 + (edM cur).length) 1 es' :: (edM cur ++ famM eU8 es)) := by
  obtain ⟨h1, h2⟩ := line_reach A0 A1 o3 a len c cur t m es hok hn
  have hE : (edM cur).length ≤ 1 := by unfold edM; split <;> simp
  have hEd : ∀ π : Nat → Option Nat, (cur ≠ [] → π 2 = some 5) → rnV 8 inert π (edV 2 cur) = some (edV 5 cur) := by
    intro π hπ
    unfold edV
    by_cases hd : cur = []
    · rw [if_pos hd, if_pos hd]; rfl
    · rw [if_neg hd, if_neg hd, rn_inert_sl, hπ hd]; rfl
  have hE2 : cur ≠ [] → (edM cur).length = 1 := fun h => by unfold edM; rw [if_neg h]; rfl
  generalize hee : (edM cur).length = e at *
  have hnm : ([ptr 2, .int .i64 n] : List Value).flatMap (nmV 8) = [2] := rfl
  have hrn : mapO (rnV 8 inert (ixOf (2 :: 4 :: List.range' 5 (e + famN es)))) [ptr 2, .int .i64 n] = some [ptr 0, .int .i64 n] := by simp
  have hlen : (2 :: 4 :: List.range' 5 (e + famN es)).length = e + famN es + 2 := by simp
  have hlen2 : (lbB 1 a' len' c' cur t m :: famB (2 + e) 1 es' :: (edM cur ++ famM eU8 es)).length = e + famN es + 2 := by simp [hee]
  rw [rcall_eq, hnm, h1, bo_some, hrn, bo_some, h2, bo_some, hX, bo_some]
  simp only
  rw [if_pos (by rw [hlen, hlen2]; exact Nat.le_refl _), hlen2]
  generalize (A0 :: A1 :: lbB 4 a len c cur t m :: o3 :: famB (5 + e) 1 es :: (edM cur ++ famM eU8 es)).length = LL
  generalize hπ : bk (2 :: 4 :: List.range' 5 (e + famN es)) LL (e + famN es + 2) = π
  have hbk : ∀ i, i < e + famN es → π (2 + i) = some (5 + i) := by
    intro i hi
    rw [← hπ]
    unfold bk
    rw [hlen, if_pos (by omega), Nat.add_comm 2 i, List.getElem?_cons_succ, List.getElem?_cons_succ, List.getElem?_range' (by omega)]
    simp
  have hb1 : π 1 = some 4 := by rw [← hπ]; unfold bk; rw [hlen, if_pos (by omega)]; rfl
  have hrv : rnV 8 inert π v = some v' := by
    rcases hv with ⟨rfl, rfl⟩ | ⟨j, k, cc, hj, rfl, rfl⟩
    · rfl
    · rw [rn_inert_sl, Nat.add_assoc, hbk _ (by omega), Nat.add_assoc]; rfl
  have hm0 : bkB π (lbB 1 a' len' c' cur t m) = some (lbB 4 a' len' c' cur t m) := by
    have := hEd π (fun h => hbk 0 (by have := hE2 h; omega))
    unfold bkB
    rw [if_neg (by simp)]
    simp only [if_true]
    have e1 : rnV 8 inert π (slQ 1 a' len' c') = some (slQ 4 a' len' c') := by rw [rn_inert_sl, hb1]; rfl
    have e2 : mapO (rnV 8 inert π) [slQ 1 a' len' c', edV 2 cur, .bool t, .int .i64 m] = some [slQ 4 a' len' c', edV 5 cur, .bool t, .int .i64 m] := by
      simp only [mapO, e1, this]
      rfl
    show ob (mapO (rnV 8 inert π) [slQ 1 a' len' c', edV 2 cur, .bool t, .int .i64 m]) _ = _
    rw [e2]
    rfl
  have hm1 := bkB_fam eU8 (π := π) es' (2 + e) (5 + e) 1 true hok' (fun i hi => by rw [Nat.add_assoc, hbk _ (by omega), Nat.add_assoc])
  have hm2 := mapB_fam eU8 (π := π) (edM cur ++ famM eU8 es) (own_all cur es)
  rw [show (⟨famX (2 + e) es', 1, true, true⟩ : Blk) = famB (2 + e) 1 es' from rfl, show (⟨famX (5 + e) es', 1, true, true⟩ : Blk) = famB (5 + e) 1 es' from rfl] at hm1
  rw [hrv, bo_some, mapB_cons, hm0, bo_some, mapB_cons, hm1, bo_some, hm2, bo_some, bo_some, bo_some]
  have hbs : (lbB 4 a' len' c' cur t m :: famB (5 + e) 1 es' :: (edM cur ++ famM eU8 es)).length = e + famN es + 2 := by simp [hee]
  rw [hlen, List.take_of_length_le (by omega), List.drop_of_length_le (by omega), List.append_nil, setAll_cons, setAll_cons]
  have hs := setAll_seg [A0, A1, lbB 4 a' len' c' cur t m, o3, famB (5 + e) 1 es'] (edM cur ++ famM eU8 es) [] (edM cur ++ famM eU8 es) rfl
  have e3 : (edM cur ++ famM eU8 es).length = e + famN es := by simp [hee]
  rw [e3] at hs
  simp at hs ⊢
  exact hs
end Go.Ab
