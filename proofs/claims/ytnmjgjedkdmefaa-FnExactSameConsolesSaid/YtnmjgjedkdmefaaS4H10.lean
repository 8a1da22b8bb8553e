/- What the functions of the program answer, for all arguments that the theorems name as conditions. -/
import Derived.Test.YtnmjgjedkdmefaaS4H9
namespace Go.Ab
open Go.Proofs
set_option linter.unusedSimpArgs false
set_option linter.unusedVariables false
set_option maxHeartbeats 4000000

theorem shown_cases (s t : ScrT) : ((s.g.r = t.g.r) = True ∧ (s.g.w = t.g.w) = True ∧ (s.g.cs = t.g.cs) = True ∧ (s.row = t.row) = True ∧ (s.col = t.col) = True ∧ (s.late = t.late) = True ∧ (s.attr = t.attr) = True ∧ (s.top = t.top) = True ∧ (s.bot = t.bot) = True ∧ (s.org = t.org) = True ∧ (s.wrp = t.wrp) = True ∧ (s.ins = t.ins) = True ∧ (s.cs = t.cs) = True) ∨ ((s.g.r = t.g.r) = False) ∨ ((s.g.r = t.g.r) = True ∧ (s.g.w = t.g.w) = False) ∨ ((s.g.r = t.g.r) = True ∧ (s.g.w = t.g.w) = True ∧ (s.g.cs = t.g.cs) = False) ∨ ((s.g.r = t.g.r) = True ∧ (s.g.w = t.g.w) = True ∧ (s.g.cs = t.g.cs) = True ∧ (s.row = t.row) = False) ∨ ((s.g.r = t.g.r) = True ∧ (s.g.w = t.g.w) = True ∧ (s.g.cs = t.g.cs) = True ∧ (s.row = t.row) = True ∧ (s.col = t.col) = False) ∨ ((s.g.r = t.g.r) = True ∧ (s.g.w = t.g.w) = True ∧ (s.g.cs = t.g.cs) = True ∧ (s.row = t.row) = True ∧ (s.col = t.col) = True ∧ (s.late = t.late) = False) ∨ ((s.g.r = t.g.r) = True ∧ (s.g.w = t.g.w) = True ∧ (s.g.cs = t.g.cs) = True ∧ (s.row = t.row) = True ∧ (s.col = t.col) = True ∧ (s.late = t.late) = True ∧ (s.attr = t.attr) = False) ∨ ((s.g.r = t.g.r) = True ∧ (s.g.w = t.g.w) = True ∧ (s.g.cs = t.g.cs) = True ∧ (s.row = t.row) = True ∧ (s.col = t.col) = True ∧ (s.late = t.late) = True ∧ (s.attr = t.attr) = True ∧ (s.top = t.top) = False) ∨ ((s.g.r = t.g.r) = True ∧ (s.g.w = t.g.w) = True ∧ (s.g.cs = t.g.cs) = True ∧ (s.row = t.row) = True ∧ (s.col = t.col) = True ∧ (s.late = t.late) = True ∧ (s.attr = t.attr) = True ∧ (s.top = t.top) = True ∧ (s.bot = t.bot) = False) ∨ ((s.g.r = t.g.r) = True ∧ (s.g.w = t.g.w) = True ∧ (s.g.cs = t.g.cs) = True ∧ (s.row = t.row) = True ∧ (s.col = t.col) = True ∧ (s.late = t.late) = True ∧ (s.attr = t.attr) = True ∧ (s.top = t.top) = True ∧ (s.bot = t.bot) = True ∧ (s.org = t.org) = False) ∨ ((s.g.r = t.g.r) = True ∧ (s.g.w = t.g.w) = True ∧ (s.g.cs = t.g.cs) = True ∧ (s.row = t.row) = True ∧ (s.col = t.col) = True ∧ (s.late = t.late) = True ∧ (s.attr = t.attr) = True ∧ (s.top = t.top) = True ∧ (s.bot = t.bot) = True ∧ (s.org = t.org) = True ∧ (s.wrp = t.wrp) = False) ∨ ((s.g.r = t.g.r) = True ∧ (s.g.w = t.g.w) = True ∧ (s.g.cs = t.g.cs) = True ∧ (s.row = t.row) = True ∧ (s.col = t.col) = True ∧ (s.late = t.late) = True ∧ (s.attr = t.attr) = True ∧ (s.top = t.top) = True ∧ (s.bot = t.bot) = True ∧ (s.org = t.org) = True ∧ (s.wrp = t.wrp) = True ∧ (s.ins = t.ins) = False) ∨ ((s.g.r = t.g.r) = True ∧ (s.g.w = t.g.w) = True ∧ (s.g.cs = t.g.cs) = True ∧ (s.row = t.row) = True ∧ (s.col = t.col) = True ∧ (s.late = t.late) = True ∧ (s.attr = t.attr) = True ∧ (s.top = t.top) = True ∧ (s.bot = t.bot) = True ∧ (s.org = t.org) = True ∧ (s.wrp = t.wrp) = True ∧ (s.ins = t.ins) = True ∧ (s.cs = t.cs) = False) := by
  rcases Classical.propComplete (s.g.r = t.g.r) with e0 | e0
  rotate_left
  · exact Or.inr (Or.inl e0)
  rcases Classical.propComplete (s.g.w = t.g.w) with e1 | e1
  rotate_left
  · exact Or.inr (Or.inr (Or.inl ⟨e0, e1⟩))
  rcases Classical.propComplete (s.g.cs = t.g.cs) with e2 | e2
  rotate_left
  · exact Or.inr (Or.inr (Or.inr (Or.inl ⟨e0, e1, e2⟩)))
  rcases Classical.propComplete (s.row = t.row) with e3 | e3
  rotate_left
  · exact Or.inr (Or.inr (Or.inr (Or.inr (Or.inl ⟨e0, e1, e2, e3⟩))))
  rcases Classical.propComplete (s.col = t.col) with e4 | e4
  rotate_left
  · exact Or.inr (Or.inr (Or.inr (Or.inr (Or.inr (Or.inl ⟨e0, e1, e2, e3, e4⟩)))))
  rcases Classical.propComplete (s.late = t.late) with e5 | e5
  rotate_left
  · exact Or.inr (Or.inr (Or.inr (Or.inr (Or.inr (Or.inr (Or.inl ⟨e0, e1, e2, e3, e4, e5⟩))))))
  rcases Classical.propComplete (s.attr = t.attr) with e6 | e6
  rotate_left
  · exact Or.inr (Or.inr (Or.inr (Or.inr (Or.inr (Or.inr (Or.inr (Or.inl ⟨e0, e1, e2, e3, e4, e5, e6⟩)))))))
  rcases Classical.propComplete (s.top = t.top) with e7 | e7
  rotate_left
  · exact Or.inr (Or.inr (Or.inr (Or.inr (Or.inr (Or.inr (Or.inr (Or.inr (Or.inl ⟨e0, e1, e2, e3, e4, e5, e6, e7⟩))))))))
  rcases Classical.propComplete (s.bot = t.bot) with e8 | e8
  rotate_left
  · exact Or.inr (Or.inr (Or.inr (Or.inr (Or.inr (Or.inr (Or.inr (Or.inr (Or.inr (Or.inl ⟨e0, e1, e2, e3, e4, e5, e6, e7, e8⟩)))))))))
  rcases Classical.propComplete (s.org = t.org) with e9 | e9
  rotate_left
  · exact Or.inr (Or.inr (Or.inr (Or.inr (Or.inr (Or.inr (Or.inr (Or.inr (Or.inr (Or.inr (Or.inl ⟨e0, e1, e2, e3, e4, e5, e6, e7, e8, e9⟩))))))))))
  rcases Classical.propComplete (s.wrp = t.wrp) with e10 | e10
  rotate_left
  · exact Or.inr (Or.inr (Or.inr (Or.inr (Or.inr (Or.inr (Or.inr (Or.inr (Or.inr (Or.inr (Or.inr (Or.inl ⟨e0, e1, e2, e3, e4, e5, e6, e7, e8, e9, e10⟩)))))))))))
  rcases Classical.propComplete (s.ins = t.ins) with e11 | e11
  rotate_left
  · exact Or.inr (Or.inr (Or.inr (Or.inr (Or.inr (Or.inr (Or.inr (Or.inr (Or.inr (Or.inr (Or.inr (Or.inr (Or.inl ⟨e0, e1, e2, e3, e4, e5, e6, e7, e8, e9, e10, e11⟩))))))))))))
  rcases Classical.propComplete (s.cs = t.cs) with e12 | e12
  rotate_left
  · exact Or.inr (Or.inr (Or.inr (Or.inr (Or.inr (Or.inr (Or.inr (Or.inr (Or.inr (Or.inr (Or.inr (Or.inr (Or.inr (⟨e0, e1, e2, e3, e4, e5, e6, e7, e8, e9, e10, e11, e12⟩)))))))))))))
  exact Or.inl ⟨e0, e1, e2, e3, e4, e5, e6, e7, e8, e9, e10, e11, e12⟩

theorem s_spec_l5Shown (s t : ScrT) (h1 : s.small) (r1 r2 : List Value) : X_spec_l5Shown [scrP s r1, scrP t r2] [] = some (.bool (shown s t), []) := by
  have c1 := s_spec_l3SameCells s.g.cs t.g.cs h1.1.1
  have c2 := s_spec_l5Bools s.tabs t.tabs h1.2.1
  have c3 := s_spec_l4Ints s.sets t.sets h1.2.2
  rcases shown_cases s t with ⟨e0, e1, e2, e3, e4, e5, e6, e7, e8, e9, e10, e11, e12⟩ | e0 | ⟨e0, e1⟩ | ⟨e0, e1, e2⟩ | ⟨e0, e1, e2, e3⟩ | ⟨e0, e1, e2, e3, e4⟩ | ⟨e0, e1, e2, e3, e4, e5⟩ | ⟨e0, e1, e2, e3, e4, e5, e6⟩ | ⟨e0, e1, e2, e3, e4, e5, e6, e7⟩ | ⟨e0, e1, e2, e3, e4, e5, e6, e7, e8⟩ | ⟨e0, e1, e2, e3, e4, e5, e6, e7, e8, e9⟩ | ⟨e0, e1, e2, e3, e4, e5, e6, e7, e8, e9, e10⟩ | ⟨e0, e1, e2, e3, e4, e5, e6, e7, e8, e9, e10, e11⟩ | ⟨e0, e1, e2, e3, e4, e5, e6, e7, e8, e9, e10, e11, e12⟩ <;>
    simp (maxSteps := 4000000) -implicitDefEqProofs [X_spec_l5Shown, retK_eq, shown, shownA, shownB, sameG2, *] <;> rcases Classical.propComplete (s.tabs = t.tabs) with e | e <;> simp [e]

def sameS (s t : ScrT) : Bool := shown s t && (decide (s.g.bk = t.g.bk) && (decide (s.sr = t.sr) && (decide (s.sc = t.sc) && (decide (s.sa = t.sa) && decide (s.lc = t.lc)))))
theorem shown_G {s t : ScrT} (h : shown s t = true) : sameG s.g t.g = decide (s.g.bk = t.g.bk) := by
  simp [shown, sameG2] at h
  simp only [sameG]
  obtain ⟨⟨h1, h2, h3⟩, _⟩ := h
  rw [h1, h2, h3]
  by_cases e : s.g.bk = t.g.bk <;> simp [e]
theorem s_impl_sameScreens (s t : ScrT) (h1 : s.small) : X_impl_sameScreens [scrV s, scrV t] [] = some (.bool (sameS s t), []) := by
  have c1 := s_impl_SameShown s t h1
  have c2 := s_impl_SameGrids s.g t.g h1.1
  cases hs : shown s t
  · simp (maxSteps := 4000000) -implicitDefEqProofs [X_impl_sameScreens, retK_eq, sameS, c1, hs]
  · rw [shown_G hs] at c2
    rcases Classical.propComplete (s.g.bk = t.g.bk) with e0 | e0 <;> rcases Classical.propComplete (s.sr = t.sr) with e1 | e1 <;> rcases Classical.propComplete (s.sc = t.sc) with e2 | e2 <;> rcases Classical.propComplete (s.sa = t.sa) with e3 | e3 <;> rcases Classical.propComplete (s.lc = t.lc) with e4 | e4 <;> simp (maxSteps := 4000000) -implicitDefEqProofs [X_impl_sameScreens, retK_eq, sameS, c1, c2, hs, e0, e1, e2, e3, e4]
def sameD (d d' : DecT) : Bool := decide (d.l = d'.l) && (decide (d.o = d'.o) && decide (d.v = d'.v))
def sameV (v v' : VtT) : Bool := sameD v.d v'.d && (sameP v.p v'.p && sameS v.s v'.s)
theorem s_impl_SameVts (v w : VtT) (h1 : v.small) : X_impl_SameVts [vtV v, vtV w] [] = some (.bool (sameV v w), []) := by
  have c1 := s_impl_SameParsers v.p w.p h1.1
  have c2 := s_impl_sameScreens v.s w.s h1.2
  rcases Classical.propComplete (v.d.l = w.d.l) with e1 | e1 <;> rcases Classical.propComplete (v.d.o = w.d.o) with e2 | e2 <;> rcases Classical.propComplete (v.d.v = w.d.v) with e3 | e3 <;> cases hp : sameP v.p w.p <;> simp (maxSteps := 4000000) -implicitDefEqProofs [X_impl_SameVts, retK_eq, sameV, sameD, eqFX_cons, c1, c2, hp, e1, e2, e3]
theorem s_spec_l6Same (v w : VtT) (h1 : v.small) (r1 r2 : List Value) : X_spec_l6Same [vtP v r1, vtP w r2] [] = some (.bool (sameV v w), []) := by
  have c1 := fun r1 r2 => s_spec_l4Same v.p w.p h1.1 r1 r2
  have c2 := fun r1 r2 => s_spec_l5Shown v.s w.s h1.2 r1 r2
  have c3 := s_spec_l3SameCells v.s.g.bk w.s.g.bk h1.2.1.2
  rcases Classical.propComplete (v.d.l = w.d.l) with e1 | e1
  rotate_left
  · simp (maxSteps := 4000000) -implicitDefEqProofs [X_spec_l6Same, retK_eq, sameV, sameD, eqFX_cons, e1]
  rcases Classical.propComplete (v.d.o = w.d.o) with e2 | e2
  rotate_left
  · simp (maxSteps := 4000000) -implicitDefEqProofs [X_spec_l6Same, retK_eq, sameV, sameD, eqFX_cons, e1, e2]
  rcases Classical.propComplete (v.d.v = w.d.v) with e3 | e3
  rotate_left
  · simp (maxSteps := 4000000) -implicitDefEqProofs [X_spec_l6Same, retK_eq, sameV, sameD, eqFX_cons, e1, e2, e3]
  cases hp : sameP v.p w.p
  · simp (maxSteps := 4000000) -implicitDefEqProofs [X_spec_l6Same, retK_eq, sameV, sameD, eqFX_cons, c1, hp, e1, e2, e3]
  cases hs : shown v.s w.s
  · simp (maxSteps := 4000000) -implicitDefEqProofs [X_spec_l6Same, retK_eq, sameV, sameD, sameS, eqFX_cons, c1, c2, hp, hs, e1, e2, e3]
  rcases Classical.propComplete (v.s.g.bk = w.s.g.bk) with e4 | e4 <;> rcases Classical.propComplete (v.s.sr = w.s.sr) with e5 | e5 <;> rcases Classical.propComplete (v.s.sc = w.s.sc) with e6 | e6 <;> rcases Classical.propComplete (v.s.sa = w.s.sa) with e7 | e7 <;> rcases Classical.propComplete (v.s.lc = w.s.lc) with e8 | e8 <;> simp (maxSteps := 4000000) -implicitDefEqProofs [X_spec_l6Same, retK_eq, sameV, sameD, sameS, eqFX_cons, c1, c2, c3, hp, hs, e1, e2, e3, e4, e5, e6, e7, e8]

/-! ## Sameness of lines and consoles -/
def LnT.wf (l : LnT) : Prop := (∀ x ∈ l.rows, ∀ n ∈ x, wfI .u8 n) ∧ ∀ n ∈ l.cur, wfI .u8 n
@[simp] theorem cvBS_fr (m : Mem) (l : List Int) : cvBS m (frS eU8' l) = some (.string (bstr l)) := by
  show (if (cellsE eU8' l).toArray.size = l.length then ob (bytesOf (cellsE eU8' l)) fun x => some (Value.string ⟨x.toArray⟩) else none) = _
  rw [if_pos (by simp), cellsE_ints, bytesOf_u8]
  rfl
theorem bstr_eq' {a b : List Int} (ha : ∀ n ∈ a, wfI .u8 n) (hb : ∀ n ∈ b, wfI .u8 n) : ((bstr a).toList = (bstr b).toList) = (a = b) := by
  have := bstr_eq ha hb
  rw [Bool.eq_iff_iff] at this
  simp at this
  exact propext this
theorem l_spec_l11Same (r : List (List Int)) (b c d b' c' d' : Value) (r1 r2 : List Value) : ∀ (p p' r' : List (List Int)) (q : Nat), p.length = p'.length → r.length = r'.length → r.length < q → (p ++ r).length < 1000000000 → (∀ x ∈ r, ∀ n ∈ x, wfI .u8 n) → (∀ x ∈ r', ∀ n ∈ x, wfI .u8 n) → L_spec_l11Same 0 q 0 [roP (frS eBS (p ++ r) :: b :: c :: d :: r1), roP (frS eBS (p' ++ r') :: b' :: c' :: d' :: r2), .int .i64 p.length] [] = some (.bool (r == r'), []) := by
  induction r with
  | nil =>
    intro p p' r' q hp hr hq hl w1 w2
    obtain ⟨q, rfl⟩ : ∃ n, q = n + 1 := ⟨q - 1, by omega⟩
    obtain rfl : r' = [] := List.eq_nil_of_length_eq_zero (by simpa using hr.symm)
    simp +contextual -implicitDefEqProofs [L_spec_l11Same, retK_eq]
  | cons x r ih =>
    intro p p' r' q hp hr hq hl w1 w2
    obtain ⟨q, rfl⟩ : ∃ n, q = n + 1 := ⟨q - 1, by omega⟩
    cases r' with
    | nil => simp at hr
    | cons x' r' =>
      have h := ih (p ++ [x]) (p' ++ [x']) r' q (by simp [hp]) (by simpa using hr) (by simp at hq; omega) (by simpa using hl) (fun y hy => w1 y (by simp [hy])) (fun y hy => w2 y (by simp [hy]))
      simp at h
      have hx := ixa_mid eBS (sz := 1) rfl .i64 p x r
      have hx' := ixa_mid eBS (sz := 1) rfl .i64 p' x' r'
      rw [← hp] at hx'
      have hw := wrap_next (n := p.length) (by simp at hl; omega)
      have hb := bstr_eq' (w1 x (by simp)) (w2 x' (by simp))
      rcases Classical.propComplete (x = x') with e | e <;> simp -implicitDefEqProofs [L_spec_l11Same, retK_eq, cutK_eq, hx, hx', hw, hb, e, h]
def sameL (l l' : LnT) : Bool := decide (l.rows = l'.rows) && (decide (l.cur = l'.cur) && (decide (l.t = l'.t) && decide (l.n = l'.n)))
theorem s_spec_l11Same (l l' : LnT) (h1 : l.small) (w1 : l.wf) (w2 : l'.wf) (r1 r2 : List Value) : X_spec_l11Same [lnP l r1, lnP l' r2] [] = some (.bool (sameL l l'), []) := by
  have hb := bstr_eq' w1.2 w2.2
  rcases Classical.propComplete (l.cur = l'.cur) with e1 | e1 <;> rcases Classical.propComplete (l.t = l'.t) with e2 | e2 <;> rcases Classical.propComplete (l.n = l'.n) with e3 | e3
  all_goals
    by_cases hr : l.rows.length = l'.rows.length
    · have h := l_spec_l11Same l.rows (frS eU8' l.cur) (.bool l.t) (.int .i64 l.n) (frS eU8' l'.cur) (.bool l'.t) (.int .i64 l'.n) r1 r2 [] [] l'.rows QQ rfl hr (by have := h1.1; unfold QQ; omega) (by simpa using h1.1) w1.1 w2.1
      simp at h
      simp -implicitDefEqProofs [X_spec_l11Same, retK_eq, cutK_eq, hb, e1, e2, e3, hr, h, sameL]
      try (by_cases e : l.rows = l'.rows <;> simp [e])
    · have hr' : ¬ (l.rows.length : Int) = l'.rows.length := by omega
      have e : ¬ l.rows = l'.rows := fun e => hr (by rw [e])
      simp -implicitDefEqProofs [X_spec_l11Same, retK_eq, cutK_eq, hb, e1, e2, e3, hr, hr', e, sameL]
theorem l_EqualFunc (r : List (List Int)) : ∀ (p p' r' : List (List Int)) (q n : Nat), p.length = p'.length → r.length = r'.length → n = (p ++ r).length → r.length < q → n < 1000000000 → (∀ x ∈ r, x.length < 1000000000) → L_slices_EqualFunc_byte_byte_byte_byte 0 q 0 [frS eBS (p' ++ r'), .func (.func 68) #[] #[], frS eBS (p ++ r), .int .i64 n, .int .i64 p.length] [] = some (.bool (r == r'), []) := by
  induction r with
  | nil =>
    intro p p' r' q n hp hr hn hq hl hs
    obtain ⟨q, rfl⟩ : ∃ n, q = n + 1 := ⟨q - 1, by omega⟩
    obtain rfl : r' = [] := List.eq_nil_of_length_eq_zero (by simpa using hr.symm)
    subst hn
    simp +contextual -implicitDefEqProofs [L_slices_EqualFunc_byte_byte_byte_byte, retK_eq]
  | cons x r ih =>
    intro p p' r' q n hp hr hn hq hl hs
    obtain ⟨q, rfl⟩ : ∃ n, q = n + 1 := ⟨q - 1, by omega⟩
    cases r' with
    | nil => simp at hr
    | cons x' r' =>
      have h := ih (p ++ [x]) (p' ++ [x']) r' q n (by simp [hp]) (by simpa using hr) (by simpa using hn) (by simp at hq; omega) hl (fun y hy => hs y (by simp [hy]))
      simp at h
      have hn' : n = p.length + (r.length + 1) := by simpa using hn
      subst hn'
      simp at h
      have hx := ixa_mid eBS (sz := 1) rfl .i64 p x r
      have hx' := ixa_mid eBS (sz := 1) rfl .i64 p' x' r'
      rw [← hp] at hx'
      have hw := wrap_next (n := p.length) (by omega)
      have c1 := s_slices_Equal_byte_byte x x' (hs x (by simp))
      rcases Classical.propComplete (x = x') with e | e <;> simp -implicitDefEqProofs [L_slices_EqualFunc_byte_byte_byte_byte, cf_slices_EqualFunc_byte_byte_byte_byte, retK_eq, cutK_eq, hx, hx', hw, c1, e, h]
theorem s_EqualFunc (a b : List (List Int)) (ha : a.length < 1000000000) (hs : ∀ x ∈ a, x.length < 1000000000) : X_slices_EqualFunc_byte_byte_byte_byte [frS eBS a, frS eBS b, .func (.func 68) #[] #[]] [] = some (.bool (a == b), []) := by
  by_cases h : a.length = b.length
  · have h2 := l_EqualFunc a [] [] b QQ a.length rfl h rfl (by unfold QQ; omega) ha hs
    simp at h2
    simp +contextual -implicitDefEqProofs [X_slices_EqualFunc_byte_byte_byte_byte, cutK_eq, retK_eq, h, h2]
    try (rw [← h]; exact h2)
  · have h2 : ¬ (a.length : Int) = b.length := by omega
    have h3 : a ≠ b := fun e => h (by rw [e])
    simp +contextual -implicitDefEqProofs [X_slices_EqualFunc_byte_byte_byte_byte, cutK_eq, retK_eq, h2, h3]
theorem s_impl_SameLines (l l' : LnT) (h1 : l.small) : X_impl_SameLines [lnV l, lnV l'] [] = some (.bool (sameL l l'), []) := by
  have c1 := s_EqualFunc l.rows l'.rows h1.1 h1.2.1
  have c2 := s_slices_Equal_byte_byte l.cur l'.cur h1.2.2
  rcases Classical.propComplete (l.rows = l'.rows) with e0 | e0 <;> rcases Classical.propComplete (l.cur = l'.cur) with e1 | e1 <;> rcases Classical.propComplete (l.t = l'.t) with e2 | e2 <;> rcases Classical.propComplete (l.n = l'.n) with e3 | e3 <;> simp (maxSteps := 4000000) -implicitDefEqProofs [X_impl_SameLines, retK_eq, c1, c2, e0, e1, e2, e3, sameL]
def sameW (w w' : WayT) : Bool := decide (w.a = w'.a) && (decide (w.b = w'.b) && (decide (w.c = w'.c) && (decide (w.d = w'.d) && (decide (w.e = w'.e) && (decide (w.f = w'.f) && decide (w.g = w'.g))))))
theorem eqFX_way (w w' : WayT) : eqFX [0, 1, 2, 3, 4, 5, 6] (wayT w []) (wayT w' []) = some (sameW w w') := by
  simp [eqFX_cons, sameW]
  rfl
def sameC (c c' : ConT) : Bool := sameV c.v c'.v && (sameW c.w c'.w && sameL c.l c'.l)
theorem s_impl_SameConsoles (c c' : ConT) (h1 : c.small) : X_impl_SameConsoles [conV c, conV c'] [] = some (.bool (sameC c c'), []) := by
  have c1 := s_impl_SameVts c.v c'.v h1.1
  have c2 := s_impl_SameLines c.l c'.l h1.2
  have c3 := eqFX_way c.w c'.w
  cases e1 : sameV c.v c'.v <;> cases e2 : sameW c.w c'.w <;> simp (maxSteps := 4000000) -implicitDefEqProofs [X_impl_SameConsoles, retK_eq, c1, c2, c3, e1, e2, sameC]
theorem s_spec_l13Same (c c' : ConT) (h1 : c.small) (w1 : c.l.wf) (w2 : c'.l.wf) : X_spec_l13Same [conP c, conP c'] [] = some (.bool (sameC c c'), []) := by
  have c1 := fun r1 r2 => s_spec_l6Same c.v c'.v h1.1 r1 r2
  have c2 := fun r1 r2 => s_spec_l11Same c.l c'.l h1.2 w1 w2 r1 r2
  have c3 := eqFX_way c.w c'.w
  cases e1 : sameV c.v c'.v <;> cases e2 : sameW c.w c'.w <;> simp (maxSteps := 4000000) -implicitDefEqProofs [X_spec_l13Same, retK_eq, c1, c2, c3, e1, e2, sameC]
theorem s_spec_SameConsoles (c c' : ConT) (h1 : c.small) (w1 : c.l.wf) (w2 : c'.l.wf) : X_spec_SameConsoles [conV c, conV c'] [] = some (.bool (sameC c c'), []) := by
  have h := s_spec_l13Same c c' h1 w1 w2
  simp (maxSteps := 4000000) -implicitDefEqProofs [X_spec_SameConsoles, retK_eq, h]
end Go.Ab
