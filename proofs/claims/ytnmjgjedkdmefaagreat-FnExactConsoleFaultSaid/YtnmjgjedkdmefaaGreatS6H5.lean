/- What the functions of the program answer, for all arguments that the theorems name as conditions. -/
import Derived.Test.YtnmjgjedkdmefaaGreatS6H4
namespace Go.Ab
set_option linter.unusedSimpArgs false
set_option linter.unusedVariables false
set_option maxHeartbeats 4000000

/-! ## Faults of ways, lines, consoles -/
@[simp] theorem cell_i (k : IntKind) (p r : List Int) (x : Int) : (cellsE (eI k) (p ++ x :: r))[p.length]? = some (.int k x) := by
  have := cell_at (eI k) (l := p ++ x :: r) (i := p.length) (o := 0) (by simp) (by rw [eI_sz]; exact Nat.one_pos)
  rw [gt_mid, eI_sz, Nat.mul_one, Nat.add_zero] at this
  exact this
@[simp] theorem cell_i' (k : IntKind) (p r : List Int) (x : Int) (h : p.length < (cellsE (eI k) (p ++ x :: r)).length) : (cellsE (eI k) (p ++ x :: r))[p.length]'h = .int k x := by
  have := cell_i k p r x
  rw [List.getElem?_eq_getElem h] at this
  exact Option.some.inj this
theorem s_spec_l10List (w : WayT) (rest : List Value) : X_spec_l10List [wayP w rest] [] = some (slO 0 (wayL w).length, [ownB eI6 (wayL w)]) := by
  simp +contextual -implicitDefEqProofs [X_spec_l10List, retK_eq]
  exact ⟨rfl, rfl⟩
theorem s_impl_Way_numbers (w : WayT) : X_impl_Way_numbers [wayV w] [] = some (slO 0 (wayL w).length, [ownB eI6 (wayL w)]) := by
  simp +contextual -implicitDefEqProofs [X_impl_Way_numbers, retK_eq]
  exact ⟨rfl, rfl⟩
def okW : Nat → List Int → Bool
  | _, [] => true
  | i, x :: r => inB x 0 (if i = 0 then 511 else 255) && okW (i + 1) r
theorem l_spec_l10Fault (r : List Int) : ∀ (p : List Int) (q n : Nat), r.length < q → n = (p ++ r).length → n < 1000 → L_spec_l10Fault 0 q 0 [slO 0 n, .int .i64 p.length] [ownB eI6 (p ++ r)] = some (.int .i64 (if okW p.length r = true then 0 else 3), []) := by
  induction r with
  | nil =>
    intro p q n hq hn hl
    obtain ⟨q, rfl⟩ : ∃ n, q = n + 1 := ⟨q - 1, by omega⟩
    subst hn
    simp +contextual -implicitDefEqProofs [L_spec_l10Fault, retK_eq, okW]
  | cons x r ih =>
    intro p q n hq hn hl
    obtain ⟨q, rfl⟩ : ∃ n, q = n + 1 := ⟨q - 1, by omega⟩
    have h := ih (p ++ [x]) q n (by simp at hq; omega) (by simpa using hn) hl
    simp at h
    have hn' : n = p.length + (r.length + 1) := by simpa using hn
    subst hn'
    have hw := wrap_next (n := p.length) (by omega)
    rcases Classical.propComplete (p = []) with e0 | e0
    · simp -implicitDefEqProofs [L_spec_l10Fault, retK_eq, cutK_eq, s_spec_l1In, h, hw, e0, okW]
      cases inB x 0 511 <;> simp
    · simp -implicitDefEqProofs [L_spec_l10Fault, retK_eq, cutK_eq, s_spec_l1In, h, hw, e0, okW]
      cases inB x 0 255 <;> simp
theorem l_impl_WayFault (r : List Int) : ∀ (p : List Int) (q n : Nat), r.length < q → n = (p ++ r).length → n < 1000 → L_impl_WayFault 0 q 0 [slO 0 n, .int .i64 n, .int .i64 p.length] [ownB eI6 (p ++ r)] = some (.int .i64 (if okW p.length r = true then 0 else 3), []) := by
  induction r with
  | nil =>
    intro p q n hq hn hl
    obtain ⟨q, rfl⟩ : ∃ n, q = n + 1 := ⟨q - 1, by omega⟩
    subst hn
    simp +contextual -implicitDefEqProofs [L_impl_WayFault, retK_eq, okW]
  | cons x r ih =>
    intro p q n hq hn hl
    obtain ⟨q, rfl⟩ : ∃ n, q = n + 1 := ⟨q - 1, by omega⟩
    have h := ih (p ++ [x]) q n (by simp at hq; omega) (by simpa using hn) hl
    simp at h
    have hn' : n = p.length + (r.length + 1) := by simpa using hn
    subst hn'
    simp at h
    have hw := wrap_next (n := p.length) (by omega)
    have hin : inB x 0 255 = true → inB x 0 511 = true := by simp [inB]; omega
    rcases Classical.propComplete (p = []) with e0 | e0 <;> cases e1 : inB x 0 255 <;> cases e2 : inB x 0 511 <;> simp [e1, e2] at hin <;>
      simp -implicitDefEqProofs [L_impl_WayFault, retK_eq, cutK_eq, s_impl_in, h, hw, e0, okW, e1, e2]
def wayF (w : WayT) : Int := if okW 0 (wayL w) = true then 0 else 3
theorem s_spec_l10Fault (w : WayT) (rest : List Value) : X_spec_l10Fault [wayP w rest] [] = some (.int .i64 (wayF w), []) := by
  have c1 := s_spec_l10List w rest
  have h := l_spec_l10Fault (wayL w) [] QQ (wayL w).length (by unfold QQ; simp [wayL_len]) rfl (by simp [wayL_len])
  simp at h
  simp +contextual -implicitDefEqProofs [X_spec_l10Fault, retK_eq, cutK_eq, c1, h, wayF]
theorem s_impl_WayFault (w : WayT) : X_impl_WayFault [wayV w] [] = some (.int .i64 (wayF w), []) := by
  have c1 := s_impl_Way_numbers w
  have h := l_impl_WayFault (wayL w) [] QQ (wayL w).length (by unfold QQ; simp [wayL_len]) rfl (by simp [wayL_len])
  simp at h
  simp +contextual -implicitDefEqProofs [X_impl_WayFault, retK_eq, cutK_eq, c1, h, wayF]
def sumL : List (List Int) → Nat
  | [] => 0
  | x :: r => x.length + sumL r
theorem sumL_le : ∀ (r : List (List Int)), (∀ x ∈ r, x.length < 1000000000) → sumL r ≤ r.length * 1000000000
  | [], _ => Nat.zero_le _
  | x :: r, h => by
    have h1 := sumL_le r (fun y hy => h y (by simp [hy]))
    have h2 := h x (by simp)
    simp only [sumL, List.length_cons]
    omega
theorem l_spec_l11Size (r : List (List Int)) (b c d : Value) (rest : List Value) : ∀ (p : List (List Int)) (q : Nat) (t : Nat), r.length < q → (p ++ r).length < 1000000000 → t + sumL r < 1000000000000 → L_spec_l11Size 0 q 0 [roP (frS eBS (p ++ r) :: b :: c :: d :: rest), .int .i64 t, .int .i64 p.length] [] = some (.int .i64 ((t + sumL r : Nat) : Int), []) := by
  induction r with
  | nil =>
    intro p q t hq hl ht
    obtain ⟨q, rfl⟩ : ∃ n, q = n + 1 := ⟨q - 1, by omega⟩
    simp +contextual -implicitDefEqProofs [L_spec_l11Size, retK_eq, sumL]
  | cons x r ih =>
    intro p q t hq hl ht
    obtain ⟨q, rfl⟩ : ∃ n, q = n + 1 := ⟨q - 1, by omega⟩
    simp only [sumL] at ht
    have h := ih (p ++ [x]) q (t + x.length) (by simp at hq; omega) (by simpa using hl) (by omega)
    simp at h
    have hx := ixa_mid eBS (sz := 1) rfl .i64 p x r
    have hw := wrap_next (n := p.length) (by simp at hl; omega)
    have hw2 : IntKind.i64.wrap ((t : Int) + x.length) = (t : Int) + x.length := wrap_i64 (by omega) (by omega)
    simp +contextual -implicitDefEqProofs [L_spec_l11Size, retK_eq, cutK_eq, hx, hw, hw2, h, sumL]
    omega
theorem l_impl_Line_size (r : List (List Int)) : ∀ (p : List (List Int)) (q n : Nat) (t : Nat), r.length < q → n = (p ++ r).length → n < 1000000000 → t + sumL r < 1000000000000 → L_impl_Line_size 0 q 0 [.int .i64 t, frS eBS (p ++ r), .int .i64 n, .int .i64 p.length] [] = some (.int .i64 ((t + sumL r : Nat) : Int), []) := by
  induction r with
  | nil =>
    intro p q n t hq hn hl ht
    obtain ⟨q, rfl⟩ : ∃ n, q = n + 1 := ⟨q - 1, by omega⟩
    subst hn
    simp +contextual -implicitDefEqProofs [L_impl_Line_size, retK_eq, sumL]
  | cons x r ih =>
    intro p q n t hq hn hl ht
    obtain ⟨q, rfl⟩ : ∃ n, q = n + 1 := ⟨q - 1, by omega⟩
    simp only [sumL] at ht
    have h := ih (p ++ [x]) q n (t + x.length) (by simp at hq; omega) (by simpa using hn) hl (by omega)
    simp at h
    have hn' : n = p.length + (r.length + 1) := by simpa using hn
    subst hn'
    simp at h
    have hx := ixa_mid eBS (sz := 1) rfl .i64 p x r
    have hw := wrap_next (n := p.length) (by omega)
    have hw2 : IntKind.i64.wrap ((t : Int) + x.length) = (t : Int) + x.length := wrap_i64 (by omega) (by omega)
    simp +contextual -implicitDefEqProofs [L_impl_Line_size, retK_eq, cutK_eq, hx, hw, hw2, h, sumL]
    omega
def LnT.size (l : LnT) : Nat := l.cur.length + sumL l.rows
theorem size_le {l : LnT} (hl : l.small) (h : l.rows.length ≤ 40) : l.cur.length + sumL l.rows < 1000000000000 := by
  have := sumL_le l.rows hl.2.1
  have := hl.2.2
  omega
theorem s_spec_l11Size (l : LnT) (hl : l.small) (h : l.rows.length ≤ 40) (rest : List Value) : X_spec_l11Size [lnP l rest] [] = some (.int .i64 (l.size : Nat), []) := by
  have h1 := l_spec_l11Size l.rows (frS eU8' l.cur) (.bool l.t) (.int .i64 l.n) rest [] QQ l.cur.length (by unfold QQ; omega) (by simp; omega) (size_le hl h)
  simp at h1
  simp +contextual -implicitDefEqProofs [X_spec_l11Size, retK_eq, cutK_eq, h1, LnT.size]
theorem s_impl_Line_size (l : LnT) (hl : l.small) (h : l.rows.length ≤ 40) : X_impl_Line_size [lnV l] [] = some (.int .i64 (l.size : Nat), []) := by
  have h1 := l_impl_Line_size l.rows [] QQ l.rows.length l.cur.length (by unfold QQ; omega) rfl (by omega) (size_le hl h)
  simp at h1
  simp +contextual -implicitDefEqProofs [X_impl_Line_size, retK_eq, cutK_eq, h1, LnT.size]
def lineF (l : LnT) : Int := if l.rows.length ≤ 40 ∧ l.size ≤ 40 then (if inB l.n 0 999 = true then 0 else 3) else 2
theorem s_spec_l11Fault (l : LnT) (hl : l.small) (rest : List Value) : X_spec_l11Fault [lnP l rest] [] = some (.int .i64 (lineF l), []) := by
  by_cases h : l.rows.length ≤ 40
  · have c1 := s_spec_l11Size l hl h rest
    have h' : ¬ (40 : Int) < l.rows.length := by omega
    by_cases h2 : l.size ≤ 40
    · have h2' : ¬ (40 : Int) < l.size := by omega
      cases e : inB l.n 0 999 <;> simp -implicitDefEqProofs [X_spec_l11Fault, retK_eq, s_spec_l1In, c1, h, h', h2, h2', e, lineF]
    · have h2' : (40 : Int) < l.size := by omega
      simp -implicitDefEqProofs [X_spec_l11Fault, retK_eq, s_spec_l1In, c1, h, h', h2, h2', lineF]
  · have h' : (40 : Int) < l.rows.length := by omega
    simp -implicitDefEqProofs [X_spec_l11Fault, retK_eq, s_spec_l1In, h, h', lineF]
theorem s_impl_LineFault (l : LnT) (hl : l.small) : X_impl_LineFault [lnV l] [] = some (.int .i64 (lineF l), []) := by
  by_cases h : l.rows.length ≤ 40
  · have c1 := s_impl_Line_size l hl h
    have h' : (l.rows.length : Int) ≤ 40 := by omega
    have h'' : ¬ (40 : Int) < l.rows.length := by omega
    by_cases h2 : l.size ≤ 40
    · have h2' : (l.size : Int) ≤ 40 := by omega
      have h2'' : ¬ (40 : Int) < l.size := by omega
      cases e : inB l.n 0 999 <;> simp -implicitDefEqProofs [X_impl_LineFault, retK_eq, s_impl_in, s_impl_unless, unl, s_impl_first, c1, h, h', h'', h2, h2', h2'', e, lineF]
    · have h2' : ¬ (l.size : Int) ≤ 40 := by omega
      have h2'' : (40 : Int) < l.size := by omega
      cases e : inB l.n 0 999 <;> simp -implicitDefEqProofs [X_impl_LineFault, retK_eq, s_impl_in, s_impl_unless, unl, s_impl_first, c1, h, h', h'', h2, h2', h2'', e, lineF]
  · have h' : ¬ (l.rows.length : Int) ≤ 40 := by omega
    have h'' : (40 : Int) < l.rows.length := by omega
    cases e : inB l.n 0 999 <;> simp -implicitDefEqProofs [X_impl_LineFault, retK_eq, s_impl_in, s_impl_unless, unl, s_impl_first, h, h', h'', e, lineF]
end Go.Ab
