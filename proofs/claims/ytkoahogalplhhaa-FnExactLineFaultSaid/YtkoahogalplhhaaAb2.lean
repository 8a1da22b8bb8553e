/- Part of an own evaluator of Go code on numbered blocks, and of the proof that the machine does what it says; each theorem carries its own conditions. -/
import Derived.Test.YtkoahogalplhhaaAb1
set_option linter.unusedVariables false
set_option linter.unusedSimpArgs false
namespace Go.Ab

/-! ## The evaluator's memory and the machine's -/

/-- Where a block lies: the machine's block, how far its first cell is in, the end of what is its own, the cells of an element. -/
structure Loc where
  g : Nat
  sh : Nat
  top : Nat
  es : Nat

/-- Where the blocks lie, and what the machine's blocks hold that nothing writes any more. -/
structure Emb where
  loc : Nat → Option Loc
  fz : Nat → Option (Array Value)

instance : CoeFun Emb (fun _ => Nat → Option Loc) := ⟨Emb.loc⟩

def Emb.upd (ι : Emb) (n : Nat) (l : Loc) : Emb := { ι with loc := fun k => if k = n then some l else ι k }

/-- Without places. -/
def Emb.bare (ι : Emb) : Emb := { ι with loc := fun _ => none }

theorem Emb.upd_fz (ι : Emb) (n : Nat) (l : Loc) : (ι.upd n l).fz = ι.fz := rfl

theorem Emb.upd_same (ι : Emb) (n : Nat) (l : Loc) : ι.upd n l n = some l := by simp [Emb.upd]
theorem Emb.upd_ne (ι : Emb) {n k : Nat} (l : Loc) (h : k ≠ n) : ι.upd n l k = ι k := by simp [Emb.upd, h]

/-- Any address. -/
def plainA (_ : Option Addr) : Prop := True

/-- The same value, its addresses apart. -/
inductive VR : Emb → Value → Value → Prop where
  | bool {ι : Emb} (b : Bool) : VR ι (.bool b) (.bool b)
  | int {ι : Emb} (k : IntKind) (n : Int) : VR ι (.int k n) (.int k n)
  | string {ι : Emb} (s : ByteArray) : VR ι (.string s) (.string s)
  | nilFunc {ι : Emb} : VR ι .nilFunc .nilFunc
  | ptrNil {ι : Emb} : VR ι (.pointer none) (.pointer none)
  | ptr {ι : Emb} (n o : Nat) (l : Loc) : ι n = some l → VR ι (.pointer (some ⟨n, o, none⟩)) (.pointer (some ⟨l.g, l.sh + o, none⟩))
  | slNil {ι : Emb} (a : Option Addr) : plainA a → VR ι (.slice none 0 0) (.slice a 0 0)
  | sl {ι : Emb} (n o len acap : Nat) (l : Loc) (off ccap : Nat) : ι n = some l → len ≤ acap → acap ≤ ccap → off + ccap * l.es ≤ l.top →
      (acap = 0 ∨ off = l.sh + o) → VR ι (.slice (some ⟨n, o, none⟩) len acap) (.slice (some ⟨l.g, off, none⟩) len ccap)
  | ro {ι : Emb} (len : Nat) (cs : Array Value) (g off ccap : Nat) (c : Array Value) : ι.fz g = some c → (cs.size = 0 ∨ off + cs.size ≤ c.size) → len ≤ ccap →
      (∀ (i : Nat) x y, cs[i]? = some x → c[off + i]? = some y → VR ι.bare x y) → cs.toList.all flat = true → VR ι (.iface len (.agg cs)) (.slice (some ⟨g, off, none⟩) len ccap)
  | ro0 {ι : Emb} (a : Option Addr) (ccap : Nat) : plainA a → VR ι (.iface 0 (.agg #[])) (.slice a 0 ccap)
  | rop {ι : Emb} (cs : Array Value) (g off : Nat) (c : Array Value) : ι.fz g = some c → (cs.size = 0 ∨ off + cs.size ≤ c.size) →
      (∀ (i : Nat) x y, cs[i]? = some x → c[off + i]? = some y → VR ι.bare x y) → cs.toList.all flat = true → VR ι (.iface 0 (.tuple cs)) (.pointer (some ⟨g, off, none⟩))
  | func {ι : Emb} (fn : Fn) (a a' b b' : Array Value) : a.size = a'.size → (∀ (i : Nat) x y, a[i]? = some x → a'[i]? = some y → VR ι x y) →
      b.size = b'.size → (∀ (i : Nat) x y, b[i]? = some x → b'[i]? = some y → VR ι x y) → VR ι (.func fn a b) (.func fn a' b')
  | agg {ι : Emb} (a a' : Array Value) : a.size = a'.size → (∀ (i : Nat) x y, a[i]? = some x → a'[i]? = some y → VR ι x y) → VR ι (.agg a) (.agg a')
  | tuple {ι : Emb} (a a' : Array Value) : a.size = a'.size → (∀ (i : Nat) x y, a[i]? = some x → a'[i]? = some y → VR ι x y) → VR ι (.tuple a) (.tuple a')

theorem plainA.none : plainA none := trivial
theorem plainA.some (g o : Nat) : plainA (some ⟨g, o, Option.none⟩) := trivial
theorem plainA.any (a : Option Addr) : plainA a := trivial
theorem plainA.add {a : Option Addr} (_ : plainA a) (n : Nat) : plainA (a.map (·.add n)) := trivial

/-- A part of what is inline. -/
theorem ro_part {ι : Emb} {cs c : Array Value} {off : Nat} (hs : cs.size = 0 ∨ off + cs.size ≤ c.size) (h : ∀ (i : Nat) x y, cs[i]? = some x → c[off + i]? = some y → VR ι.bare x y) (o : Nat) {L : List Value}
    (hL : ∀ (i : Nat) x, L[i]? = some x → cs[o + i]? = some x) (hf : cs.toList.all flat = true) : (L.toArray.size = 0 ∨ off + o + L.toArray.size ≤ c.size) ∧ (∀ (i : Nat) x y, L.toArray[i]? = some x → c[off + o + i]? = some y → VR ι.bare x y) ∧ L.toArray.toList.all flat = true := by
  refine ⟨?_, ?_, ?_⟩
  · rcases Nat.eq_zero_or_pos L.length with h0 | h0
    · left; simpa using h0
    · right
      have := hL (L.length - 1) _ (List.getElem?_eq_getElem (by omega))
      have := (Array.getElem?_eq_some_iff.1 this).1
      simp
      omega
  · intro i x y hx hy
    exact h (o + i) x y (hL i x (by simpa using hx)) (by rw [← Nat.add_assoc]; exact hy)
  · rw [List.all_eq_true] at hf ⊢
    intro x hx
    simp only [List.toList_toArray] at hx
    obtain ⟨i, hi, rfl⟩ := List.getElem_of_mem hx
    have := hL i _ (List.getElem?_eq_getElem hi)
    rw [← Array.getElem?_toList] at this
    exact hf _ (List.mem_of_getElem? this)

theorem drop_get {cs : Array Value} (o : Nat) : ∀ (i : Nat) x, (cs.toList.drop o)[i]? = some x → cs[o + i]? = some x := by
  intro i x h
  rw [List.getElem?_drop] at h
  simpa using h

theorem take_drop_get {cs : Array Value} (o n : Nat) : ∀ (i : Nat) x, ((cs.toList.drop o).take n)[i]? = some x → cs[o + i]? = some x := by
  intro i x h
  rw [List.getElem?_take] at h
  split at h
  · exact drop_get o i x h
  · cases h

structure Emb.le (ι ι' : Emb) : Prop where
  loc : ∀ n l, ι n = some l → ι' n = some l
  fz : ∀ g c, ι.fz g = some c → ι'.fz g = some c

theorem Emb.le.refl (ι : Emb) : ι.le ι := ⟨fun _ _ h => h, fun _ _ h => h⟩
theorem Emb.le.trans {ι ι1 ι2 : Emb} (h : ι.le ι1) (g : ι1.le ι2) : ι.le ι2 := ⟨fun n l e => g.loc n l (h.loc n l e), fun n c e => g.fz n c (h.fz n c e)⟩
theorem Emb.le.bare {ι ι' : Emb} (h : ι.le ι') : ι.bare.le ι'.bare := ⟨fun _ _ e => e, h.fz⟩
theorem Emb.bare_le (ι : Emb) : ι.bare.le ι := ⟨fun _ _ e => by simp [Emb.bare] at e, fun _ _ e => e⟩
theorem Emb.upd_le {ι : Emb} {n : Nat} (l : Loc) (h : ι n = none) : ι.le (ι.upd n l) := by
  refine ⟨fun k l' e => ?_, fun _ _ e => e⟩
  rw [Emb.upd_ne]
  · exact e
  · rintro rfl; rw [h] at e; cases e

theorem VR.mono {ι ι' : Emb} (h : ι.le ι') {v v' : Value} (r : VR ι v v') : VR ι' v v' := by
  induction r generalizing ι' with
  | bool b => exact .bool b
  | int k n => exact .int k n
  | string s => exact .string s
  | nilFunc => exact .nilFunc
  | ptrNil => exact .ptrNil
  | ptr n o l hl => exact .ptr n o l (h.loc _ _ hl)
  | slNil a ha => exact .slNil a ha
  | sl n o len acap l off ccap hl h1 h2 h3 h4 => exact .sl n o len acap l off ccap (h.loc _ _ hl) h1 h2 h3 h4
  | ro len cs g off ccap c h1 h2 h3 _ h5 ih => exact .ro len cs g off ccap c (h.fz _ _ h1) h2 h3 (fun i x y hx hy => ih i x y hx hy h.bare) h5
  | ro0 a ccap ha => exact .ro0 a ccap ha
  | rop cs g off c h1 h2 _ h5 ih => exact .rop cs g off c (h.fz _ _ h1) h2 (fun i x y hx hy => ih i x y hx hy h.bare) h5
  | func fn a a' b b' ha _ hb _ ia ib => exact .func fn a a' b b' ha (fun i x y hx hy => ia i x y hx hy h) hb (fun i x y hx hy => ib i x y hx hy h)
  | agg a a' ha _ ia => exact .agg a a' ha (fun i x y hx hy => ia i x y hx hy h)
  | tuple a a' ha _ ia => exact .tuple a a' ha (fun i x y hx hy => ia i x y hx hy h)

theorem VR.const {ι : Emb} {v : Value} (h : constOk v = true) : VR ι v v := by
  unfold constOk at h
  split at h <;> first | exact .slNil none trivial | constructor | simp at h

theorem VR.flat {ι : Emb} {v v' : Value} (r : VR ι v v') : flat v' = flat v := by
  cases r <;> rfl

/-- Lists of values, place by place. -/
def VRL (ι : Emb) (xs ys : List Value) : Prop := xs.length = ys.length ∧ ∀ (i : Nat) x y, xs[i]? = some x → ys[i]? = some y → VR ι x y

theorem VRL.nil {ι : Emb} : VRL ι [] [] := ⟨rfl, fun _ _ _ h => by simp at h⟩

theorem VRL.cons {ι : Emb} {x y : Value} {xs ys : List Value} (h : VR ι x y) (t : VRL ι xs ys) : VRL ι (x :: xs) (y :: ys) := by
  refine ⟨by simp [t.1], fun i a b ha hb => ?_⟩
  cases i with
  | zero => simp at ha hb; subst ha; subst hb; exact h
  | succ i => simp at ha hb; exact t.2 i a b ha hb

theorem VRL.head {ι : Emb} {x y : Value} {xs ys : List Value} (h : VRL ι (x :: xs) (y :: ys)) : VR ι x y := h.2 0 x y (by simp) (by simp)

theorem VRL.tail {ι : Emb} {x y : Value} {xs ys : List Value} (h : VRL ι (x :: xs) (y :: ys)) : VRL ι xs ys :=
  ⟨by have := h.1; simpa using this, fun i a b ha hb => h.2 (i + 1) a b (by simpa using ha) (by simpa using hb)⟩

theorem VRL.cases_cons {ι : Emb} {x : Value} {xs zs : List Value} (h : VRL ι (x :: xs) zs) : ∃ y ys, zs = y :: ys ∧ VR ι x y ∧ VRL ι xs ys := by
  cases zs with
  | nil => have := h.1; simp at this
  | cons y ys => exact ⟨y, ys, rfl, h.head, h.tail⟩

theorem VRL.cases_nil {ι : Emb} {zs : List Value} (h : VRL ι [] zs) : zs = [] := by
  have := h.1
  cases zs with
  | nil => rfl
  | cons _ _ => simp at this

theorem VRL.mono {ι ι' : Emb} (h : ι.le ι') {xs ys : List Value} (r : VRL ι xs ys) : VRL ι' xs ys := ⟨r.1, fun i x y hx hy => (r.2 i x y hx hy).mono h⟩

theorem VRL.append {ι : Emb} {xs ys xs' ys' : List Value} (h : VRL ι xs ys) (h' : VRL ι xs' ys') : VRL ι (xs ++ xs') (ys ++ ys') := by
  induction xs generalizing ys with
  | nil => rw [h.cases_nil]; simpa using h'
  | cons x xs ih =>
    obtain ⟨y, ys, rfl, hx, ht⟩ := h.cases_cons
    exact VRL.cons hx (ih ht)

theorem VRL.take {ι : Emb} {xs ys : List Value} (h : VRL ι xs ys) (k : Nat) : VRL ι (xs.take k) (ys.take k) := by
  refine ⟨by simp [h.1], fun i x y hx hy => ?_⟩
  rw [List.getElem?_take] at hx hy
  split at hx
  · rename_i hi
    rw [if_pos hi] at hy
    exact h.2 i x y hx hy
  · simp at hx

theorem VRL.drop {ι : Emb} {xs ys : List Value} (h : VRL ι xs ys) (k : Nat) : VRL ι (xs.drop k) (ys.drop k) := by
  refine ⟨by simp [h.1], fun i x y hx hy => ?_⟩
  rw [List.getElem?_drop] at hx hy
  exact h.2 _ x y hx hy

theorem VRL.consts {ι : Emb} {xs : List Value} (h : ∀ x ∈ xs, constOk x = true) : VRL ι xs xs :=
  ⟨rfl, fun i x y hx hy => by rw [hx] at hy; cases hy; exact .const (h x (List.mem_of_getElem? hx))⟩

theorem VRL.get {ι : Emb} {xs ys : List Value} (h : VRL ι xs ys) {i : Nat} {x : Value} (hx : xs[i]? = some x) : ∃ y, ys[i]? = some y ∧ VR ι x y := by
  have hi : i < xs.length := (List.getElem?_eq_some_iff.1 hx).1
  have hy : ys[i]? = some (ys[i]'(by rw [← h.1]; exact hi)) := List.getElem?_eq_getElem _
  exact ⟨_, hy, h.2 i x _ hx hy⟩

theorem VRL.all_flat {ι : Emb} {xs ys : List Value} (h : VRL ι xs ys) (hf : xs.all flat = true) : ys.all flat = true := by
  rw [List.all_eq_true] at hf ⊢
  intro y hy
  obtain ⟨i, hi, rfl⟩ := List.getElem_of_mem hy
  have hx : xs[i]? = some (xs[i]'(by rw [h.1]; exact hi)) := List.getElem?_eq_getElem _
  rw [(h.2 i _ _ hx (List.getElem?_eq_getElem hi)).flat]
  exact hf _ (List.mem_of_getElem? hx)

theorem VR.arr {ι : Emb} {a a' : Array Value} (hs : a.size = a'.size) (h : ∀ (i : Nat) x y, a[i]? = some x → a'[i]? = some y → VR ι x y) : VRL ι a.toList a'.toList :=
  ⟨by simpa using hs, fun i x y hx hy => h i x y (by simpa using hx) (by simpa using hy)⟩

theorem VRL.arr {ι : Emb} {xs ys : List Value} (h : VRL ι xs ys) : xs.toArray.size = ys.toArray.size ∧ ∀ (i : Nat) x y, xs.toArray[i]? = some x → ys.toArray[i]? = some y → VR ι x y :=
  ⟨by simpa using h.1, fun i x y hx hy => h.2 i x y (by simpa using hx) (by simpa using hy)⟩

theorem VRL.agg {ι : Emb} {xs ys : List Value} (h : VRL ι xs ys) : VR ι (.agg xs.toArray) (.agg ys.toArray) := .agg _ _ h.arr.1 h.arr.2
theorem VRL.tuple {ι : Emb} {xs ys : List Value} (h : VRL ι xs ys) : VR ι (.tuple xs.toArray) (.tuple ys.toArray) := .tuple _ _ h.arr.1 h.arr.2

/-- The cells of a value. -/
theorem VR.cells {ι : Emb} {v v' : Value} (r : VR ι v v') : VRL ι v.cells.toList v'.cells.toList := by
  cases r with
  | agg a a' h1 h2 => exact VR.arr h1 h2
  | bool b => exact VRL.cons (.bool b) .nil
  | int k n => exact VRL.cons (.int k n) .nil
  | string s => exact VRL.cons (.string s) .nil
  | nilFunc => exact VRL.cons .nilFunc .nil
  | ptrNil => exact VRL.cons .ptrNil .nil
  | ptr n o l h => exact VRL.cons (.ptr n o l h) .nil
  | slNil a h => exact VRL.cons (.slNil a h) .nil
  | sl n o len acap l off ccap h1 h2 h3 h4 h5 => exact VRL.cons (.sl n o len acap l off ccap h1 h2 h3 h4 h5) .nil
  | ro len cs g off ccap c h1 h2 h3 h4 h5 => exact VRL.cons (.ro len cs g off ccap c h1 h2 h3 h4 h5) .nil
  | ro0 a ccap h => exact VRL.cons (.ro0 a ccap h) .nil
  | rop cs g off c h1 h2 h3 h4 => exact VRL.cons (.rop cs g off c h1 h2 h3 h4) .nil
  | func fn a a' b b' h1 h2 h3 h4 => exact VRL.cons (.func fn a a' b b' h1 h2 h3 h4) .nil
  | tuple a a' h1 h2 => exact VRL.cons (.tuple a a' h1 h2) .nil

/-! ### A block that lies in the machine's memory -/

structure Match (ι : Emb) (b : Blk) (l : Loc) (w : World) : Prop where
  ex : ∃ c e fz, w.heap[l.g]? = some (.cells c e fz) ∧ l.top ≤ c.size ∧ l.sh + b.cells.length ≤ l.top ∧
    (∀ (i : Nat) v, b.cells[i]? = some v → ∃ v', c[l.sh + i]? = some v' ∧ VR ι v v') ∧
    (b.own = true → ∀ i, i < c.size → ¬ (fz.1 ≤ i ∧ i < fz.2))
  flat : b.cells.all flat = true

theorem Match.mono {ι ι' : Emb} {b : Blk} {l : Loc} {w : World} (h : ι.le ι') (M : Match ι b l w) : Match ι' b l w := by
  obtain ⟨c, e, fz, h1, h2, h3, h4, h5⟩ := M.ex
  refine ⟨⟨c, e, fz, h1, h2, h3, fun i v hv => ?_, h5⟩, M.flat⟩
  obtain ⟨v', hc, r⟩ := h4 i v hv
  exact ⟨v', hc, r.mono h⟩

theorem Match.heap {ι : Emb} {b : Blk} {l : Loc} {w w' : World} (M : Match ι b l w) (h : w'.heap[l.g]? = w.heap[l.g]?) : Match ι b l w' := by
  obtain ⟨c, e, fz, h1, rest⟩ := M.ex
  exact ⟨⟨c, e, fz, h.trans h1, rest⟩, M.flat⟩

theorem Match.lt {ι : Emb} {b : Blk} {l : Loc} {w : World} (M : Match ι b l w) : l.g < w.heap.size := by
  obtain ⟨c, e, fz, h1, _⟩ := M.ex
  exact (Array.getElem?_eq_some_iff.1 h1).1

structure Rep (B : Nat) (ι : Emb) (m : Mem) (w : World) : Prop where
  cells : ∀ n l b, ι n = some l → m[n]? = some b → b.live = true → Match ι b l w
  apart : ∀ n n' l l' b b', n ≠ n' → ι n = some l → ι n' = some l' → m[n]? = some b → m[n']? = some b' → b.live = true → b'.live = true → b.own = true → l.g ≠ l'.g
  base : ∀ n l b, ι n = some l → m[n]? = some b → b.live = true → b.own = true → B ≤ l.g
  es : ∀ n l b, ι n = some l → m[n]? = some b → b.es = l.es
  /-- what is frozen stands as it was -/
  frozen : ∀ g c, ι.fz g = some c → ∃ e z, w.heap[g]? = some (.cells c e z)
  /-- no block that may be written lies in what is frozen -/
  cold : ∀ n l b, ι n = some l → m[n]? = some b → b.live = true → b.own = true → ι.fz l.g = none
  /-- a block that may not be written is frozen -/
  kept : ∀ n l b, ι n = some l → m[n]? = some b → b.live = true → b.own = false → ∃ c, ι.fz l.g = some c

/-- What a piece of code leaves. -/
structure After (B : Nat) (ι : Emb) (m : Mem) (w : World) (ι' : Emb) (m' : Mem) (w' : World) : Prop where
  len : m.length ≤ m'.length
  keep : ∀ n, n < m.length ∨ m'.length ≤ n → ι' n = ι n
  rep : Rep B ι' m' w'
  frame : ∀ g, g < w.heap.size → (∀ n l b, ι n = some l → m[n]? = some b → b.live = true → b.own = true → l.g ≠ g) → w'.heap[g]? = w.heap[g]?
  origin : ∀ n l b, m.length ≤ n → ι' n = some l → m'[n]? = some b → b.live = true →
    w.heap.size ≤ l.g ∨ ∃ k l0 b0, ι k = some l0 ∧ m[k]? = some b0 ∧ b0.live = true ∧ b0.own = true ∧ l0.g = l.g
  alive : ∀ (k : Nat) b', k < m.length → m'[k]? = some b' → ∃ b, m[k]? = some b ∧ b'.es = b.es ∧ (b'.own = true → b.own = true) ∧ (b'.live = true → b.live = true)
  fz : ∀ g c, ι.fz g = some c → ι'.fz g = some c
  ice : ∀ g, ι.fz g = none → ι'.fz g = none ∨ w.heap.size ≤ g ∨ ∃ n l b, ι n = some l ∧ m[n]? = some b ∧ b.live = true ∧ b.own = true ∧ l.g = g
  unreal : ∀ (k : Nat), k < m.length → ι k = none → m'[k]? = m[k]?
  os : w'.os = w.os
  tape : w'.tape = w.tape
  output : w'.output = w.output
  size : w.heap.size ≤ w'.heap.size

/-- The names that are still to be given have no place yet. -/
def Free (ι : Emb) (a b : Nat) : Prop := ∀ n, a ≤ n → n < b → ι n = none

theorem After.le {B : Nat} {ι ι' : Emb} {m m' : Mem} {w w' : World} (A : After B ι m w ι' m' w') (hf : Free ι m.length m'.length) : ι.le ι' := by
  refine ⟨fun n l h => ?_, A.fz⟩
  rw [A.keep n ?_]
  · exact h
  · rcases Nat.lt_or_ge n m.length with h1 | h1
    · exact .inl h1
    · rcases Nat.lt_or_ge n m'.length with h2 | h2
      · rw [hf n h1 h2] at h; cases h
      · exact .inr h2

theorem After.same {B : Nat} {ι : Emb} {m : Mem} {w w' : World} (R : Rep B ι m w) (hh : w'.heap = w.heap) (ho : w'.os = w.os) (ht : w'.tape = w.tape) (hu : w'.output = w.output) : After B ι m w ι m w' where
  len := Nat.le_refl _
  keep _ _ := rfl
  rep := ⟨fun n l b h1 h2 h3 => (R.cells n l b h1 h2 h3).heap (by rw [hh]), R.apart, R.base, R.es, fun g c h => by rw [hh]; exact R.frozen g c h, R.cold, R.kept⟩
  frame g _ _ := by rw [hh]
  origin n l b h1 _ h3 _ := by
    have := (List.getElem?_eq_some_iff.1 h3).1
    omega
  alive k b' _ h := ⟨b', h, rfl, id, id⟩
  fz _ _ h := h
  ice _ h := .inl h
  unreal _ _ _ := rfl
  os := ho
  tape := ht
  output := hu
  size := by rw [hh]; exact Nat.le_refl _

theorem After.refl {B : Nat} {ι : Emb} {m : Mem} {w : World} (R : Rep B ι m w) : After B ι m w ι m w := After.same R rfl rfl rfl rfl

theorem After.trans {B : Nat} {ι ι1 ι2 : Emb} {m m1 m2 : Mem} {w w1 w2 : World} (h1 : After B ι m w ι1 m1 w1) (h2 : After B ι1 m1 w1 ι2 m2 w2) : After B ι m w ι2 m2 w2 where
  len := Nat.le_trans h1.len h2.len
  keep n h := by
    have l1 := h1.len
    have l2 := h2.len
    rcases h with h | h
    · rw [h2.keep n (.inl (by omega)), h1.keep n (.inl h)]
    · rw [h2.keep n (.inr h), h1.keep n (.inr (by omega))]
  rep := h2.rep
  frame g hg hn := by
    rw [h2.frame g (Nat.lt_of_lt_of_le hg h1.size) ?_, h1.frame g hg hn]
    intro n l b hl hb hv ho
    rcases Nat.lt_or_ge n m.length with hlt | hge
    · obtain ⟨b0, e0, _, e1, e2⟩ := h1.alive n b hlt hb
      rw [h1.keep n (.inl hlt)] at hl
      exact hn n l b0 hl e0 (e2 hv) (e1 ho)
    · rcases h1.origin n l b hge hl hb hv with h | ⟨k, l0, b0, a1, a2, a3, a4, a5⟩
      · omega
      · rw [← a5]; exact hn k l0 b0 a1 a2 a3 a4
  origin n l b hn hl hb hv := by
    have orig1 : ∀ n l b, m.length ≤ n → ι1 n = some l → m1[n]? = some b → b.live = true →
        w.heap.size ≤ l.g ∨ ∃ k l0 b0, ι k = some l0 ∧ m[k]? = some b0 ∧ b0.live = true ∧ b0.own = true ∧ l0.g = l.g := h1.origin
    rcases Nat.lt_or_ge n m1.length with hlt | hge
    · obtain ⟨b0, e0, _, e1, e2⟩ := h2.alive n b hlt hb
      rw [h2.keep n (.inl hlt)] at hl
      exact orig1 n l b0 hn hl e0 (e2 hv)
    · rcases h2.origin n l b hge hl hb hv with h | ⟨k, l0, b0, a1, a2, a3, a4, a5⟩
      · exact .inl (Nat.le_trans h1.size h)
      · rcases Nat.lt_or_ge k m.length with hk | hk
        · obtain ⟨c0, e0, _, e1, e2⟩ := h1.alive k b0 hk a2
          rw [h1.keep k (.inl hk)] at a1
          exact .inr ⟨k, l0, c0, a1, e0, e2 a3, e1 a4, a5⟩
        · rcases orig1 k l0 b0 hk a1 a2 a3 with h | ⟨k', l', b', c1, c2, c3, c4, c5⟩
          · exact .inl (by omega)
          · exact .inr ⟨k', l', b', c1, c2, c3, c4, c5.trans a5⟩
  alive k b' hk hb := by
    obtain ⟨b1, e0, e1, e2, e3⟩ := h2.alive k b' (Nat.lt_of_lt_of_le hk h1.len) hb
    obtain ⟨b, d0, d1, d2, d3⟩ := h1.alive k b1 hk e0
    exact ⟨b, d0, e1.trans d1, fun h => d2 (e2 h), fun h => d3 (e3 h)⟩
  fz g c h := h2.fz g c (h1.fz g c h)
  ice g hg := by
    rcases h1.ice g hg with h | h
    · rcases h2.ice g h with h' | h' | ⟨n, l, b, a1, a2, a3, a4, a5⟩
      · exact .inl h'
      · exact .inr (.inl (Nat.le_trans h1.size h'))
      · rcases Nat.lt_or_ge n m.length with hn | hn
        · obtain ⟨c0, e0, _, e1, e2⟩ := h1.alive n b hn a2
          rw [h1.keep n (.inl hn)] at a1
          exact .inr (.inr ⟨n, l, c0, a1, e0, e2 a3, e1 a4, a5⟩)
        · rcases h1.origin n l b hn a1 a2 a3 with h' | ⟨k', l', b', c1, c2, c3, c4, c5⟩
          · exact .inr (.inl (by omega))
          · exact .inr (.inr ⟨k', l', b', c1, c2, c3, c4, c5.trans a5⟩)
    · exact .inr h
  unreal k hk hn := by
    rw [h2.unreal k (Nat.lt_of_lt_of_le hk h1.len) (by rw [h1.keep k (.inl hk)]; exact hn), h1.unreal k hk hn]
  os := h2.os.trans h1.os
  tape := h2.tape.trans h1.tape
  output := h2.output.trans h1.output
  size := Nat.le_trans h1.size h2.size

theorem getElem?_snoc {m : Mem} {b x : Blk} {n : Nat} (h : (m ++ [b])[n]? = some x) : (n < m.length ∧ m[n]? = some x) ∨ (n = m.length ∧ x = b) := by
  rw [List.getElem?_append] at h
  split at h
  · exact .inl ⟨‹_›, h⟩
  · have hb := (List.getElem?_eq_some_iff.1 h).1
    simp at hb
    have : n = m.length := by omega
    subst this
    simp at h
    exact .inr ⟨rfl, h.symm⟩

/-- A new block. -/
theorem After.alloc {B : Nat} {ι : Emb} {m : Mem} {w : World} (R : Rep B ι m w) (hB : B ≤ w.heap.size) {b : Blk} {c : Array Value} {e : TypeId}
    (hown : b.own = true) (hfree : ι m.length = none) (hfl : b.cells.all flat = true) (hlen : b.cells.length ≤ c.size)
    (hc : ∀ (i : Nat) v, b.cells[i]? = some v → ∃ v', c[i]? = some v' ∧ VR ι v v')
    {fz : Nat × Nat} (hfz : ∀ i, i < c.size → ¬ (fz.1 ≤ i ∧ i < fz.2)) {w' : World} (hh : w'.heap = w.heap.push (.cells c e fz)) (ho : w'.os = w.os) (ht : w'.tape = w.tape) (hu : w'.output = w.output) :
    After B ι m w (ι.upd m.length ⟨w.heap.size, 0, c.size, b.es⟩) (m ++ [b]) w' := by
  have hle : ι.le (ι.upd m.length ⟨w.heap.size, 0, c.size, b.es⟩) := Emb.upd_le _ hfree
  have hno : ι.fz w.heap.size = none := by
    cases h : ι.fz w.heap.size with
    | none => rfl
    | some c =>
      obtain ⟨e, z, hz⟩ := R.frozen _ _ h
      have := (Array.getElem?_eq_some_iff.1 hz).1
      omega
  have hold : ∀ g, g < w.heap.size → w'.heap[g]? = w.heap[g]? := fun g hg => by
    rw [hh, Array.getElem?_push, if_neg (by omega)]
  refine { len := by simp, keep := ?_, rep := ⟨?_, ?_, ?_, ?_, ?_, ?_, ?_⟩, frame := fun g hg _ => hold g hg, origin := ?_, alive := ?_, fz := fun _ _ h => h, ice := fun _ h => .inl h, unreal := ?_, os := ho, tape := ht, output := hu, size := by rw [hh]; simp }
  · intro n h
    apply Emb.upd_ne
    simp at h
    omega
  · intro n l x hl hx hv
    rcases getElem?_snoc hx with ⟨hlt, hx⟩ | ⟨rfl, rfl⟩
    · rw [Emb.upd_ne _ _ (by omega)] at hl
      have M := R.cells n l x hl hx hv
      exact (M.mono hle).heap (hold _ M.lt)
    · rw [Emb.upd_same] at hl
      cases hl
      refine ⟨⟨c, e, fz, by rw [hh]; simp, Nat.le_refl _, by simpa using hlen, ?_, fun _ => hfz⟩, hfl⟩
      intro i v hv
      obtain ⟨v', h1, h2⟩ := hc i v hv
      exact ⟨v', by simpa using h1, h2.mono hle⟩
  · intro n n' l l' x x' hne hl hl' hx hx' hv hv' hown
    rcases getElem?_snoc hx with ⟨hlt, hy⟩ | ⟨e1, e2⟩ <;> rcases getElem?_snoc hx' with ⟨hlt', hy'⟩ | ⟨e1', e2'⟩
    · rw [Emb.upd_ne _ _ (by omega)] at hl hl'
      exact R.apart n n' l l' x x' hne hl hl' hy hy' hv hv' hown
    · rw [Emb.upd_ne _ _ (by omega)] at hl
      rw [e1', Emb.upd_same] at hl'
      cases hl'
      have := (R.cells n l x hl hy hv).lt
      simp only; omega
    · rw [Emb.upd_ne _ _ (by omega)] at hl'
      rw [e1, Emb.upd_same] at hl
      cases hl
      have := (R.cells n' l' x' hl' hy' hv').lt
      simp only; omega
    · exact absurd (e1.trans e1'.symm) hne
  · intro n l x hl hx hv hown
    rcases getElem?_snoc hx with ⟨hlt, hx⟩ | ⟨rfl, rfl⟩
    · rw [Emb.upd_ne _ _ (by omega)] at hl
      exact R.base n l x hl hx hv hown
    · rw [Emb.upd_same] at hl
      cases hl
      exact hB
  · intro n l x hl hx
    rcases getElem?_snoc hx with ⟨hlt, hx⟩ | ⟨rfl, rfl⟩
    · rw [Emb.upd_ne _ _ (by omega)] at hl
      exact R.es n l x hl hx
    · rw [Emb.upd_same] at hl
      cases hl
      rfl
  · intro g c' h
    obtain ⟨e, z, hz⟩ := R.frozen g c' h
    exact ⟨e, z, by rw [hold g (Array.getElem?_eq_some_iff.1 hz).1]; exact hz⟩
  · intro n l x hl hx hv ho
    rcases getElem?_snoc hx with ⟨hlt, hx⟩ | ⟨rfl, rfl⟩
    · rw [Emb.upd_ne _ _ (by omega)] at hl
      exact R.cold n l x hl hx hv ho
    · rw [Emb.upd_same] at hl
      cases hl
      exact hno
  · intro n l x hl hx hv ho
    rcases getElem?_snoc hx with ⟨hlt, hx⟩ | ⟨rfl, rfl⟩
    · rw [Emb.upd_ne _ _ (by omega)] at hl
      exact R.kept n l x hl hx hv ho
    · rw [hown] at ho
      cases ho
  · intro n l x hn hl hx _
    rcases getElem?_snoc hx with ⟨hlt, hx⟩ | ⟨rfl, rfl⟩
    · omega
    · rw [Emb.upd_same] at hl
      cases hl
      exact .inl (Nat.le_refl _)
  · intro k b' hk hb
    rw [List.getElem?_append_left hk] at hb
    exact ⟨b', hb, rfl, id, id⟩
  · intro k hk _
    exact List.getElem?_append_left hk

/-- A block that may not be looked at any more. -/
theorem After.kill {B : Nat} {ι : Emb} {m : Mem} {w : World} (R : Rep B ι m w) {n : Nat} {b : Blk} {l : Loc} (hb : m[n]? = some b) (hl : ι n = some l) :
    After B ι m w ι (m.set n { b with live := false }) w := by
  have hn : n < m.length := (List.getElem?_eq_some_iff.1 hb).1
  have get : ∀ k x, (m.set n { b with live := false })[k]? = some x → (k = n ∧ x = { b with live := false }) ∨ (k ≠ n ∧ m[k]? = some x) := by
    intro k x h
    rw [List.getElem?_set] at h
    split at h
    · rename_i e
      subst e
      first | rw [if_pos hn] at h | skip
      exact .inl ⟨rfl, by simpa using h.symm⟩
    · exact .inr ⟨by rintro rfl; simp_all, h⟩
  refine { len := by simp, keep := fun _ _ => rfl, rep := ⟨?_, ?_, ?_, ?_, R.frozen, ?_, ?_⟩, frame := fun _ _ _ => rfl, origin := ?_, alive := ?_, fz := fun _ _ h => h, ice := fun _ h => .inl h, unreal := ?_, os := rfl, tape := rfl, output := rfl, size := Nat.le_refl _ }
  · intro k l x h1 h2 h3
    rcases get k x h2 with ⟨rfl, rfl⟩ | ⟨_, h⟩
    · simp at h3
    · exact R.cells k l x h1 h h3
  · intro k k' l l' x x' hne h1 h2 h3 h4 h5 h6 h7
    rcases get k x h3 with ⟨rfl, rfl⟩ | ⟨_, h⟩
    · simp at h5
    · rcases get k' x' h4 with ⟨rfl, rfl⟩ | ⟨_, h'⟩
      · simp at h6
      · exact R.apart k k' l l' x x' hne h1 h2 h h' h5 h6 h7
  · intro k l x h1 h2 h3 h4
    rcases get k x h2 with ⟨rfl, rfl⟩ | ⟨_, h⟩
    · simp at h3
    · exact R.base k l x h1 h h3 h4
  · intro k l x h1 h2
    rcases get k x h2 with ⟨rfl, rfl⟩ | ⟨_, h⟩
    · exact R.es _ l b h1 hb
    · exact R.es k l x h1 h
  · intro k l x h1 h2 h3 h4
    rcases get k x h2 with ⟨rfl, rfl⟩ | ⟨_, h⟩
    · simp at h3
    · exact R.cold k l x h1 h h3 h4
  · intro k l x h1 h2 h3 h4
    rcases get k x h2 with ⟨rfl, rfl⟩ | ⟨_, h⟩
    · simp at h3
    · exact R.kept k l x h1 h h3 h4
  · intro k l x h1 _ h3 _
    have := (List.getElem?_eq_some_iff.1 h3).1
    simp at this
    omega
  · intro k b' _ h
    rcases get k b' h with ⟨rfl, rfl⟩ | ⟨_, h⟩
    · exact ⟨b, hb, rfl, id, fun h => by simp at h⟩
    · exact ⟨b', h, rfl, id, id⟩
  · intro k hk h
    rw [List.getElem?_set, if_neg]
    rintro rfl
    rw [hl] at h
    cases h

theorem splice_length {l : List Value} {o : Nat} {vs : List Value} (h : o + vs.length ≤ l.length) : (splice l o vs).length = l.length := by
  simp [splice]; omega

theorem splice_get {l : List Value} {o : Nat} {vs : List Value} (h : o + vs.length ≤ l.length) (i : Nat) :
    (splice l o vs)[i]? = if o ≤ i ∧ i < o + vs.length then vs[i - o]? else l[i]? := by
  unfold splice
  have ht : (l.take o).length = o := by simp; omega
  by_cases h1 : i < o
  · rw [if_neg (by omega), List.append_assoc, List.getElem?_append_left (by omega), List.getElem?_take, if_pos h1]
  · by_cases h2 : i < o + vs.length
    · rw [if_pos (by omega), List.getElem?_append_left (by simp; omega), List.getElem?_append_right (by omega), ht]
    · rw [if_neg (by omega), List.getElem?_append_right (by simp; omega), List.getElem?_drop]
      congr 1
      simp
      omega

theorem splice_flat {l : List Value} {o : Nat} {vs : List Value} (h : l.all flat = true) (g : vs.all flat = true) : (splice l o vs).all flat = true := by
  rw [List.all_eq_true] at h g ⊢
  intro x hx
  unfold splice at hx
  simp only [List.mem_append] at hx
  rcases hx with (hx | hx) | hx
  · exact h x (List.mem_of_mem_take hx)
  · exact g x hx
  · exact h x (List.mem_of_mem_drop hx)

/-- Cells of an own block are written. -/
theorem After.write {B : Nat} {ι : Emb} {m : Mem} {w w' : World} (R : Rep B ι m w) {n : Nat} {b : Blk} {l : Loc} (hb : m[n]? = some b) (hl : ι n = some l)
    (hv : b.live = true) (hown : b.own = true) {o : Nat} {vs vs' : List Value} (ho : o + vs.length ≤ b.cells.length) (hvs : VRL ι vs vs') (hfl : vs.all flat = true)
    {c : Array Value} {e : TypeId} {fz : Nat × Nat} {c' : Array Value} (hc : w.heap[l.g]? = some (.cells c e fz))
    (here : w'.heap[l.g]? = some (.cells c' e fz)) (other : ∀ g, g ≠ l.g → w'.heap[g]? = w.heap[g]?) (hsz : w'.heap.size = w.heap.size) (hs : c'.size = c.size)
    (hc' : ∀ (i : Nat), c'[i]? = if l.sh + o ≤ i ∧ i < l.sh + o + vs'.length then vs'[i - (l.sh + o)]? else c[i]?)
    (hos : w'.os = w.os) (ht : w'.tape = w.tape) (hu : w'.output = w.output) :
    After B ι m w ι (m.set n { b with cells := splice b.cells o vs }) w' := by
  have hn : n < m.length := (List.getElem?_eq_some_iff.1 hb).1
  have get : ∀ k x, (m.set n { b with cells := splice b.cells o vs })[k]? = some x → (k = n ∧ x = { b with cells := splice b.cells o vs }) ∨ (k ≠ n ∧ m[k]? = some x) := by
    intro k x h
    rw [List.getElem?_set] at h
    split at h
    · rename_i e
      subst e
      first | rw [if_pos hn] at h | skip
      exact .inl ⟨rfl, by simpa using h.symm⟩
    · exact .inr ⟨by rintro rfl; simp_all, h⟩
  have M := R.cells n l b hl hb hv
  obtain ⟨c0, e0, fz0, m1, m2, m3, m4, m5⟩ := M.ex
  rw [hc] at m1
  cases m1
  refine { len := by simp, keep := fun _ _ => rfl, rep := ⟨?_, ?_, ?_, ?_, ?_, ?_, ?_⟩, frame := ?_, origin := ?_, alive := ?_, fz := fun _ _ h => h, ice := fun _ h => .inl h, unreal := ?_, os := hos, tape := ht, output := hu, size := by rw [hsz]; exact Nat.le_refl _ }
  · intro k l1 x h1 h2 h3
    rcases get k x h2 with ⟨rfl, rfl⟩ | ⟨hne, h⟩
    · rw [hl] at h1
      cases h1
      refine ⟨⟨c', e, fz, here, by omega, by simp only; rw [splice_length ho]; exact m3, ?_, ?_⟩, splice_flat M.flat hfl⟩
      · intro i v hi
        simp only at hi
        rw [splice_get ho] at hi
        rw [hc']
        split at hi
        · rename_i hr
          rw [if_pos (by rw [← hvs.1]; omega)]
          obtain ⟨y, hy, r⟩ := hvs.get hi
          exact ⟨y, by rw [show l.sh + i - (l.sh + o) = i - o by omega]; exact hy, r⟩
        · rename_i hr
          rw [if_neg (by rw [← hvs.1]; omega)]
          exact m4 i v hi
      · intro _ i hi
        exact m5 hown i (by omega)
    · have M' := R.cells k l1 x h1 h h3
      exact M'.heap (other _ (fun e => R.apart n k l l1 b x (fun e => hne e.symm) hl h1 hb h hv h3 hown e.symm))
  · intro k k' l1 l2 x x' hne h1 h2 h3 h4 h5 h6 h7
    rcases get k x h3 with ⟨rfl, rfl⟩ | ⟨_, h⟩ <;> rcases get k' x' h4 with ⟨rfl, rfl⟩ | ⟨_, h'⟩
    · exact absurd rfl hne
    · exact R.apart _ k' l1 l2 b x' hne h1 h2 hb h' hv h6 hown
    · exact R.apart k _ l1 l2 x b hne h1 h2 h hb h5 hv h7
    · exact R.apart k k' l1 l2 x x' hne h1 h2 h h' h5 h6 h7
  · intro k l1 x h1 h2 h3 h4
    rcases get k x h2 with ⟨rfl, rfl⟩ | ⟨_, h⟩
    · exact R.base _ l1 b h1 hb hv hown
    · exact R.base k l1 x h1 h h3 h4
  · intro k l1 x h1 h2
    rcases get k x h2 with ⟨rfl, rfl⟩ | ⟨_, h⟩
    · exact R.es _ l1 b h1 hb
    · exact R.es k l1 x h1 h
  · intro g c1 h
    obtain ⟨e1, z1, hz⟩ := R.frozen g c1 h
    refine ⟨e1, z1, ?_⟩
    rw [other g]
    · exact hz
    · rintro rfl
      rw [R.cold n l b hl hb hv hown] at h
      cases h
  · intro k l1 x h1 h2 h3 h4
    rcases get k x h2 with ⟨rfl, rfl⟩ | ⟨_, h⟩
    · exact R.cold _ l1 b h1 hb hv hown
    · exact R.cold k l1 x h1 h h3 h4
  · intro k l1 x h1 h2 h3 h4
    rcases get k x h2 with ⟨rfl, rfl⟩ | ⟨_, h⟩
    · simp only at h4; rw [hown] at h4; cases h4
    · exact R.kept k l1 x h1 h h3 h4
  · intro g _ hg
    exact other g (fun e => hg n l b hl hb hv hown e.symm)
  · intro k l1 x h1 _ h3 _
    have := (List.getElem?_eq_some_iff.1 h3).1
    simp at this
    omega
  · intro k b' _ h
    rcases get k b' h with ⟨rfl, rfl⟩ | ⟨_, h⟩
    · exact ⟨b, hb, rfl, id, id⟩
    · exact ⟨b', h, rfl, id, id⟩
  · intro k hk h
    rw [List.getElem?_set, if_neg]
    rintro rfl
    rw [hl] at h
    cases h

/-- An append that finds room: the old block may not be looked at any more, the new one lies in its place. -/
theorem After.regrow {B : Nat} {ι : Emb} {m : Mem} {w w' : World} (R : Rep B ι m w) {n : Nat} {b nb : Blk} {l : Loc} (hb : m[n]? = some b) (hl : ι n = some l)
    (hv : b.live = true) (hown : b.own = true) (hfree : ι m.length = none) (hes : nb.es = b.es) (hnb : nb.own = true) (hfl : nb.cells.all flat = true)
    {c c' : Array Value} {e : TypeId} {fz : Nat × Nat} {off : Nat} (hc : w.heap[l.g]? = some (.cells c e fz))
    (here : w'.heap[l.g]? = some (.cells c' e fz)) (other : ∀ g, g ≠ l.g → w'.heap[g]? = w.heap[g]?) (hsz : w'.heap.size = w.heap.size) (hs : c'.size = c.size)
    (hfit : off + nb.cells.length ≤ l.top) (hc' : ∀ (i : Nat) v, nb.cells[i]? = some v → ∃ v', c'[off + i]? = some v' ∧ VR ι v v')
    (hos : w'.os = w.os) (ht : w'.tape = w.tape) (hu : w'.output = w.output) :
    After B ι m w (ι.upd m.length ⟨l.g, off, l.top, l.es⟩) (m.set n { b with live := false } ++ [nb]) w' := by
  have hn : n < m.length := (List.getElem?_eq_some_iff.1 hb).1
  have hle : ι.le (ι.upd m.length ⟨l.g, off, l.top, l.es⟩) := Emb.upd_le _ hfree
  have get : ∀ k x, (m.set n { b with live := false } ++ [nb])[k]? = some x → (k = n ∧ x = { b with live := false }) ∨ (k < m.length ∧ k ≠ n ∧ m[k]? = some x) ∨ (k = m.length ∧ x = nb) := by
    intro k x h
    rcases getElem?_snoc h with ⟨h1, h2⟩ | ⟨h1, h2⟩
    · rw [List.getElem?_set] at h2
      simp only [List.length_set] at h1
      split at h2
      · rename_i e
        subst e
        first | rw [if_pos hn] at h2 | skip
        exact .inl ⟨rfl, by simpa using h2.symm⟩
      · exact .inr (.inl ⟨h1, by rintro rfl; simp_all, h2⟩)
    · exact .inr (.inr ⟨by simpa using h1, h2⟩)
  have M := R.cells n l b hl hb hv
  obtain ⟨c0, e0, fz0, m1, m2, m3, m4, m5⟩ := M.ex
  rw [hc] at m1
  cases m1
  have apart : ∀ k l1 x, k ≠ n → ι k = some l1 → m[k]? = some x → x.live = true → l1.g ≠ l.g := fun k l1 x hne h1 h2 h3 e =>
    R.apart n k l l1 b x (fun h => hne h.symm) hl h1 hb h2 hv h3 hown e.symm
  refine { len := by simp, keep := ?_, rep := ⟨?_, ?_, ?_, ?_, ?_, ?_, ?_⟩, frame := ?_, origin := ?_, alive := ?_, fz := fun _ _ h => h, ice := fun _ h => .inl h, unreal := ?_, os := hos, tape := ht, output := hu, size := by rw [hsz]; exact Nat.le_refl _ }
  · intro k h
    apply Emb.upd_ne
    simp at h
    omega
  · intro k l1 x h1 h2 h3
    rcases get k x h2 with ⟨rfl, rfl⟩ | ⟨hk, hne, h⟩ | ⟨rfl, rfl⟩
    · simp at h3
    · rw [Emb.upd_ne _ _ (by omega)] at h1
      have M' := R.cells k l1 x h1 h h3
      exact (M'.mono hle).heap (other _ (apart k l1 x hne h1 h h3))
    · rw [Emb.upd_same] at h1
      cases h1
      refine ⟨⟨c', e, fz, here, by simp only; omega, hfit, ?_, ?_⟩, hfl⟩
      · intro i v hi
        obtain ⟨v', e1, e2⟩ := hc' i v hi
        exact ⟨v', e1, e2.mono hle⟩
      · intro _ i hi
        exact m5 hown i (by omega)
  · intro k k' l1 l2 x x' hne h1 h2 h3 h4 h5 h6 h7
    rcases get k x h3 with ⟨rfl, rfl⟩ | ⟨hk, hkn, h⟩ | ⟨e1, e2⟩
    · simp at h5
    · rw [Emb.upd_ne _ _ (by omega)] at h1
      rcases get k' x' h4 with ⟨rfl, rfl⟩ | ⟨hk', hkn', h'⟩ | ⟨e1', e2'⟩
      · simp at h6
      · rw [Emb.upd_ne _ _ (by omega)] at h2
        exact R.apart k k' l1 l2 x x' hne h1 h2 h h' h5 h6 h7
      · rw [e1', Emb.upd_same] at h2
        cases h2
        exact apart k l1 x hkn h1 h h5
    · rw [e1, Emb.upd_same] at h1
      cases h1
      rcases get k' x' h4 with ⟨rfl, rfl⟩ | ⟨hk', hkn', h'⟩ | ⟨e1', e2'⟩
      · simp at h6
      · rw [Emb.upd_ne _ _ (by omega)] at h2
        exact fun e => apart k' l2 x' hkn' h2 h' h6 e.symm
      · exact absurd (e1.trans e1'.symm) hne
  · intro k l1 x h1 h2 h3 h4
    rcases get k x h2 with ⟨rfl, rfl⟩ | ⟨hk, hne, h⟩ | ⟨e1, e2⟩
    · simp at h3
    · rw [Emb.upd_ne _ _ (by omega)] at h1
      exact R.base k l1 x h1 h h3 h4
    · rw [e1, Emb.upd_same] at h1
      cases h1
      exact R.base n l b hl hb hv hown
  · intro k l1 x h1 h2
    rcases get k x h2 with ⟨rfl, rfl⟩ | ⟨hk, hne, h⟩ | ⟨e1, e2⟩
    · rw [Emb.upd_ne _ _ (by omega)] at h1
      exact R.es _ l1 b h1 hb
    · rw [Emb.upd_ne _ _ (by omega)] at h1
      exact R.es k l1 x h1 h
    · rw [e1, Emb.upd_same] at h1
      cases h1
      rw [e2, hes]
      exact R.es n l b hl hb
  · intro g c1 h
    obtain ⟨e1, z1, hz⟩ := R.frozen g c1 h
    refine ⟨e1, z1, ?_⟩
    rw [other g]
    · exact hz
    · rintro rfl
      rw [Emb.upd_fz, R.cold n l b hl hb hv hown] at h
      cases h
  · intro k l1 x h1 h2 h3 h4
    rcases get k x h2 with ⟨rfl, rfl⟩ | ⟨hk, hne, h⟩ | ⟨e1, e2⟩
    · simp at h3
    · rw [Emb.upd_ne _ _ (by omega)] at h1
      exact R.cold k l1 x h1 h h3 h4
    · rw [e1, Emb.upd_same] at h1
      cases h1
      exact R.cold n l b hl hb hv hown
  · intro k l1 x h1 h2 h3 h4
    rcases get k x h2 with ⟨rfl, rfl⟩ | ⟨hk, hne, h⟩ | ⟨e1, e2⟩
    · simp at h3
    · rw [Emb.upd_ne _ _ (by omega)] at h1
      exact R.kept k l1 x h1 h h3 h4
    · rw [e2, hnb] at h4
      cases h4
  · intro g _ hg
    exact other g (fun e => hg n l b hl hb hv hown e.symm)
  · intro k l1 x h1 h2 h3 _
    rcases get k x h3 with ⟨rfl, rfl⟩ | ⟨hk, hne, h⟩ | ⟨e1, e2⟩
    · omega
    · omega
    · rw [e1, Emb.upd_same] at h2
      cases h2
      exact .inr ⟨n, l, b, hl, hb, hv, hown, rfl⟩
  · intro k b' hk h
    rcases get k b' h with ⟨rfl, rfl⟩ | ⟨_, hne, h⟩ | ⟨e1, e2⟩
    · exact ⟨b, hb, rfl, id, fun h => by simp at h⟩
    · exact ⟨b', h, rfl, id, id⟩
    · omega
  · intro k hk h
    rw [List.getElem?_append_left (by simpa using hk), List.getElem?_set, if_neg]
    rintro rfl
    rw [hl] at h
    cases h

end Go.Ab
