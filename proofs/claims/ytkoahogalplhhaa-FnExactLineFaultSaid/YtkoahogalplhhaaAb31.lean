/- Part of an own evaluator of Go code on numbered blocks, and of the proof that the machine does what it says; each theorem carries its own conditions. -/
import Derived.Test.YtkoahogalplhhaaAb30
set_option linter.unusedVariables false
set_option linter.unusedSimpArgs false
namespace Go.Ab

/-! ## The table of types is checked by evaluation -/

def TD.ofB : TD → TypeDesc → Bool
  | .int k, .int k' => k == k'
  | .bool, .bool => true
  | .str, .string => true
  | .slice e, .slice e' => e == e'
  | .struct fs, .struct gs => gs.toList.map (fun f => (f.offset, f.type)) == fs
  | .ptr, .pointer _ => true
  | .func, .func _ _ _ => true
  | _, _ => false

def constEq : Value → Value → Bool
  | .bool a, .bool b => a == b
  | .int k a, .int k' b => k == k' && a == b
  | .string a, .string b => a.size == 0 && b.size == 0
  | .pointer none, .pointer none => true
  | .slice none 0 0, .slice none 0 0 => true
  | .nilFunc, .nilFunc => true
  | _, _ => false

def constEqL : List Value → List Value → Bool
  | [], [] => true
  | x :: xs, y :: ys => constEq x y && constEqL xs ys
  | _, _ => false

def tyB (P : Program) (t : Nat) (x : TI) : Bool :=
  match P.info? t, P.underlying t with
  | some i, some d => match i.zero with
    | some z => x.d.ofB d && i.size == x.size && i.bytes == x.bytes && constEqL z.cells.toList x.zero && x.zero.all constOk && x.zero.length == x.size && (match x.d with
      | .struct fs => fs.all fun p => (P.info? p.2).isSome
      | _ => true)
    | none => false
  | _, _ => false

theorem ofB_sound {d : TD} {x : TypeDesc} (h : d.ofB x = true) : d.of x := by
  unfold TD.ofB at h
  unfold TD.of
  split at h <;> first | trivial | (simpa using h) | cases h

theorem bytes_empty {a b : ByteArray} (h : a.size = 0) (g : b.size = 0) : a = b := by
  obtain ⟨x⟩ := a
  obtain ⟨y⟩ := b
  have h : x.size = 0 := h
  have g : y.size = 0 := g
  rw [Array.eq_empty_of_size_eq_zero h, Array.eq_empty_of_size_eq_zero g]

theorem constEq_sound {a b : Value} (h : constEq a b = true) : a = b := by
  unfold constEq at h
  split at h
  · simp only [beq_iff_eq] at h; rw [h]
  · simp only [Bool.and_eq_true, beq_iff_eq] at h; rw [h.1, h.2]
  · simp only [Bool.and_eq_true, beq_iff_eq] at h
    rw [bytes_empty h.1 h.2]
  · rfl
  · rfl
  · rfl
  · cases h

theorem constEqL_sound : ∀ {xs ys : List Value}, constEqL xs ys = true → xs = ys
  | [], [], _ => rfl
  | x :: xs, y :: ys, h => by
    simp only [constEqL, Bool.and_eq_true] at h
    rw [constEq_sound h.1, constEqL_sound h.2]
  | [], _ :: _, h => by cases h
  | _ :: _, [], h => by cases h

theorem tyB_sound {P : Program} {t : Nat} {x : TI} (h : tyB P t x = true) : TyFits P t x := by
  unfold tyB at h
  split at h
  · rename_i i d hi hd
    split at h
    · rename_i z hz
      simp only [Bool.and_eq_true, beq_iff_eq, List.all_eq_true] at h
      obtain ⟨⟨⟨⟨⟨⟨h1, h2⟩, h3⟩, h4⟩, h5⟩, h6⟩, h7⟩ := h
      refine ⟨⟨i, d, z, hi, hd, ofB_sound h1, h2, h3, hz, constEqL_sound h4⟩, h5, h6, fun fs hfs p hp => ?_⟩
      rw [hfs] at h7
      simp only [List.all_eq_true] at h7
      exact h7 p hp
    · cases h
  · cases h

/-- The table: a list of numbers and entries. -/
def tyOf (l : List (Nat × TI)) (t : Nat) : TI := (l.lookup t).getD TI.none

theorem tyOf_fits {P : Program} {l : List (Nat × TI)} (h : l.all (fun p => tyB P p.1 p.2) = true) (t : Nat) (ht : isOther (tyOf l t).d = false) : TyFits P t (tyOf l t) := by
  unfold tyOf at ht ⊢
  cases hl : l.lookup t with
  | none => rw [hl] at ht; simp [TI.none, isOther] at ht
  | some x =>
    simp only [Option.getD_some]
    have hm : (t, x) ∈ l := by
      clear ht h
      induction l with
      | nil => simp at hl
      | cons p l ih =>
        obtain ⟨a, b⟩ := p
        rw [List.lookup_cons] at hl
        split at hl
        · rename_i e
          have e : t = a := by simpa using e
          subst e
          cases hl
          exact List.mem_cons_self ..
        · exact List.mem_cons_of_mem _ (ih hl)
    rw [List.all_eq_true] at h
    exact tyB_sound (h _ hm)
end Go.Ab
