/- Part of an own evaluator of Go code on numbered blocks, and of the proof that the machine does what it says; each theorem carries its own conditions. -/
import Derived.Test.YtkoahogalplhhaaAb37
set_option linter.unusedVariables false
set_option linter.unusedSimpArgs false
namespace Go.Ab

/-! ## What the types say of the values -/

section
variable {C : Cfg}

theorem typed_int {t : Nat} {q : IntKind} {a : Value} (h : Typed C t [a]) (ht : (C.ty t).d = .int q) : ∃ n, a = .int q n ∧ (Lit.int q n).wf = true := by
  generalize hx : [a] = cs at h
  cases h with
  | int _ q' n hd hw => rw [ht] at hd; cases hd; cases hx; exact ⟨n, rfl, hw⟩
  | bool _ b hd => rw [ht] at hd; cases hd
  | str _ s hd => rw [ht] at hd; cases hd
  | slice _ e L hd => rw [ht] at hd; cases hd
  | struct _ fs _ hd => rw [ht] at hd; cases hd

theorem typed_bool {t : Nat} {a : Value} (h : Typed C t [a]) (ht : (C.ty t).d = .bool) : ∃ b, a = .bool b := by
  generalize hx : [a] = cs at h
  cases h with
  | int _ q' n hd hw => rw [ht] at hd; cases hd
  | bool _ b hd => cases hx; exact ⟨b, rfl⟩
  | str _ s hd => rw [ht] at hd; cases hd
  | slice _ e L hd => rw [ht] at hd; cases hd
  | struct _ fs _ hd => rw [ht] at hd; cases hd

theorem typed_str {t : Nat} {a : Value} (h : Typed C t [a]) (ht : (C.ty t).d = .str) : ∃ s : ByteArray, a = .string s ∧ s.size ≤ maxLen := by
  generalize hx : [a] = cs at h
  cases h with
  | int _ q' n hd hw => rw [ht] at hd; cases hd
  | bool _ b hd => rw [ht] at hd; cases hd
  | str _ s hd hs => cases hx; exact ⟨s, rfl, hs⟩
  | slice _ e L hd => rw [ht] at hd; cases hd
  | struct _ fs _ hd => rw [ht] at hd; cases hd

theorem typed_slice {t e : Nat} {a : Value} (h : Typed C t [a]) (ht : (C.ty t).d = .slice e) : ∃ L : List (List Value), a = roS L.length L.flatten ∧ L.length ≤ maxLen ∧ (∀ x ∈ L, Typed C e x) ∧ ∀ x ∈ L, x.length = (C.ty e).size := by
  generalize hx : [a] = cs at h
  cases h with
  | int _ q' n hd hw => rw [ht] at hd; cases hd
  | bool _ b hd => rw [ht] at hd; cases hd
  | str _ s hd => rw [ht] at hd; cases hd
  | slice _ e' L hd h1 h2 h3 => rw [ht] at hd; cases hd; cases hx; exact ⟨L, rfl, h1, h2, h3⟩
  | struct _ fs _ hd => rw [ht] at hd; cases hd

theorem typed_struct {t : Nat} {fs : List (Nat × Nat)} {cs : List Value} (h : Typed C t cs) (ht : (C.ty t).d = .struct fs) : cs.length = (C.ty t).size ∧ ∀ p ∈ fs, Typed C p.2 ((cs.drop p.1).take (C.ty p.2).size) := by
  cases h with
  | int _ q' n hd hw => rw [ht] at hd; cases hd
  | bool _ b hd => rw [ht] at hd; cases hd
  | str _ s hd => rw [ht] at hd; cases hd
  | slice _ e L hd => rw [ht] at hd; cases hd
  | struct _ fs' _ hd h1 h2 => rw [ht] at hd; cases hd; exact ⟨h1, h2⟩

/-- Lists out of lists of one. -/
theorem lists_of {α : Type} {p : α → Prop} {f : α → Value} : ∀ (L : List (List Value)), (∀ x ∈ L, ∃ y, x = [f y] ∧ p y) → ∃ l : List α, L.flatten = l.map f ∧ l.length = L.length ∧ ∀ y ∈ l, p y
  | [], _ => ⟨[], rfl, rfl, by simp⟩
  | x :: L, h => by
    obtain ⟨y, rfl, hy⟩ := h x (List.mem_cons_self ..)
    obtain ⟨l, h1, h2, h3⟩ := lists_of L (fun z hz => h z (List.mem_cons_of_mem _ hz))
    refine ⟨y :: l, by simp [h1], by simp [h2], fun z hz => ?_⟩
    rw [List.mem_cons] at hz
    rcases hz with rfl | hz
    · exact hy
    · exact h3 z hz

def wfI (k : IntKind) (n : Int) : Prop := (Lit.int k n).wf = true

theorem typed_ints {t e : Nat} {k : IntKind} {a : Value} (h : Typed C t [a]) (ht : (C.ty t).d = .slice e) (he : (C.ty e).d = .int k) (hs : (C.ty e).size = 1) : ∃ l : List Int, a = intsV k l ∧ l.length ≤ maxLen ∧ ∀ n ∈ l, wfI k n := by
  obtain ⟨L, rfl, h1, h2, h3⟩ := typed_slice h ht
  obtain ⟨l, e1, e2, e3⟩ := lists_of (p := wfI k) (f := Value.int k) L (fun x hx => by
    have hl := h3 x hx
    rw [hs] at hl
    match x, hl with
    | [v], _ =>
      obtain ⟨n, rfl, hn⟩ := typed_int (h2 _ hx) he
      exact ⟨n, rfl, hn⟩)
  exact ⟨l, by rw [e1, ← e2], by omega, e3⟩

theorem typed_bss {t e i : Nat} {a : Value} (h : Typed C t [a]) (ht : (C.ty t).d = .slice e) (he : (C.ty e).d = .slice i) (hi : (C.ty i).d = .int .u8) (hs : (C.ty e).size = 1) (hs' : (C.ty i).size = 1) : ∃ l : List (List Int), a = bssV l ∧ l.length ≤ maxLen ∧ ∀ x ∈ l, x.length ≤ maxLen ∧ ∀ n ∈ x, wfI .u8 n := by
  obtain ⟨L, rfl, h1, h2, h3⟩ := typed_slice h ht
  obtain ⟨l, e1, e2, e3⟩ := lists_of (p := fun x : List Int => x.length ≤ maxLen ∧ ∀ n ∈ x, wfI .u8 n) (f := intsV .u8) L (fun x hx => by
    have hl := h3 x hx
    rw [hs] at hl
    match x, hl with
    | [v], _ =>
      obtain ⟨n, rfl, hn⟩ := typed_ints (h2 _ hx) he hi hs'
      exact ⟨n, rfl, hn⟩)
  exact ⟨l, by rw [e1, ← e2], by omega, e3⟩
end
end Go.Ab
