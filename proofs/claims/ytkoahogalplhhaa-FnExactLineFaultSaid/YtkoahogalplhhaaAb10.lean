/- Part of an own evaluator of Go code on numbered blocks, and of the proof that the machine does what it says; each theorem carries its own conditions. -/
import Derived.Test.YtkoahogalplhhaaAb9
set_option linter.unusedVariables false
set_option linter.unusedSimpArgs false
namespace Go.Ab

section
variable {C : Cfg} {call : CallF} {ops : List Oper} {B : Nat}

/-- The states of a region in the order of the text. -/
structure Text (C : Cfg) (call : CallF) (ops : List Oper) (S : Nat → Tm × Mem) (E : List Ev) : Prop where
  step : ∀ (i : Nat) o, ops[i]? = some o → ∃ nm, aStep C call ops (S i).1 (S i).2 o = some ((S (i + 1)).1, (S (i + 1)).2, nm) ∧ E[i]? = some ⟨(S i).2, (S (i + 1)).2, nm⟩
  grow : CallGrow call
  draw : drawOk C ops = true
  stable : Stable C ops E

variable {S : Nat → Tm × Mem} {E : List Ev}

def IsAlloc (C : Cfg) (ops : List Oper) (S : Nat → Tm × Mem) (i : Nat) (b : Blk) : Prop := ∃ o, ops[i]? = some o ∧ cls C o = .alloc ∧ (S (i + 1)).2 = (S i).2 ++ [b]

theorem Text.grow1 (X : Text C call ops S E) {i : Nat} (hi : i < ops.length) : Grow (S i).2 (S (i + 1)).2 := by
  obtain ⟨nm, h, _⟩ := X.step i _ (List.getElem?_eq_getElem hi)
  exact aStep_grows X.grow h

theorem Text.grow_le (X : Text C call ops S E) {i j : Nat} (hij : i ≤ j) (hj : j ≤ ops.length) : Grow (S i).2 (S j).2 := by
  induction j with
  | zero => have : i = 0 := by omega
            subst this; exact .refl _
  | succ j ih =>
    rcases Nat.lt_or_ge i (j + 1) with h | h
    · exact (ih (by omega) (by omega)).trans (X.grow1 (by omega))
    · have : i = j + 1 := by omega
      subst this; exact .refl _

theorem Text.alloc_lt (X : Text C call ops S E) {i j : Nat} {b : Blk} (hb : IsAlloc C ops S i b) (hij : i < j) (hj : j ≤ ops.length) : (S i).2.length < (S j).2.length := by
  obtain ⟨o, h1, h2, h3⟩ := hb
  have := (X.grow_le (show i + 1 ≤ j by omega) hj).len
  rw [h3] at this
  simp at this
  omega

theorem Text.lookup_between (X : Text C call ops S E) {t i j : Nat} (hij : i ≤ j) (hj : j ≤ ops.length) (hw : ∀ (k : Nat) o, i ≤ k → k < j → ops[k]? = some o → o.dst ≠ some t) : (S j).1.lookup t = (S i).1.lookup t := by
  induction j with
  | zero => have : i = 0 := by omega
            subst this; rfl
  | succ j ih =>
    rcases Nat.lt_or_ge i (j + 1) with h | h
    · have hjl : j < ops.length := by omega
      obtain ⟨nm, hs, _⟩ := X.step j _ (List.getElem?_eq_getElem hjl)
      obtain ⟨v, hv⟩ := aStep_temps hs
      rw [hv, lookup_putD (hw j _ (by omega) (by omega) (List.getElem?_eq_getElem hjl))]
      exact ih (by omega) (by omega) fun k o h1 h2 h3 => hw k o h1 (by omega) h3
    · have : i = j + 1 := by omega
      subst this; rfl

/-- What can be read of a block. -/
def look (m : Mem) (k : Nat) : Option (List Value × Bool) := (m[k]?).map fun x => (x.cells, x.live)

/-- A block that is read stays as it is wherever nothing that is ordered with the load changes it. -/
theorem Text.block_between (X : Text C call ops S E) {j : Nat} {o : Oper} (hoj : ops[j]? = some o) (hr : cls C o = .read) {nm : Nat} {T' : Tm} {m' : Mem} (hs : aStep C call ops (S j).1 (S j).2 o = some (T', m', some nm))
    {i k : Nat} (hik : i ≤ k) (hk : k ≤ ops.length) (hlen : nm < (S i).2.length)
    (hno : ∀ (e : Nat) p, i ≤ e → e < k → ops[e]? = some p → cls C p = .eff → (if e < j then ahead (masks ops []) e j else ahead (masks ops []) j e) = false) :
    look (S k).2 nm = look (S i).2 nm := by
  induction k with
  | zero => have : i = 0 := by omega
            subst this; rfl
  | succ k ih =>
    rcases Nat.lt_or_ge i (k + 1) with h | h
    · have hkl : k < ops.length := by omega
      have ih' := ih (by omega) (by omega) (fun e p h1 h2 h3 h4 => hno e p h1 (by omega) h3 h4)
      obtain ⟨nk, hsk, hEk⟩ := X.step k _ (List.getElem?_eq_getElem hkl)
      by_cases hc : cls C ops[k] = .eff
      · have hp := pairs_mem (C := C) hoj (List.getElem?_eq_getElem hkl) hr hc (hno k _ (by omega) (by omega) (List.getElem?_eq_getElem hkl) hc)
        have hst := X.stable _ hp
        obtain ⟨nj, hsj, hEj⟩ := X.step j o hoj
        rw [hs] at hsj
        simp only [Option.some.injEq, Prod.mk.injEq] at hsj
        unfold stab at hst
        simp only [hEj, hEk] at hst
        rw [← hsj.2.2] at hst
        simp only at hst
        exact hst.trans ih'
      · rcases aStep_mem hsk hc with e | ⟨_, b, e⟩
        · rw [e]; exact ih'
        · rw [← ih']
          unfold look
          rw [e, List.getElem?_append_left]
          have := (X.grow_le (show i ≤ k by omega) (by omega)).len
          omega
    · have : i = k + 1 := by omega
      subst this; rfl

/-- What a temporary holds once the operations of D have run. -/
def TdVal (ops : List Oper) (S : Nat → Tm × Mem) (D : Nat → Prop) (t : Nat) (v : Value) : Prop :=
  (∃ i o, D i ∧ ops[i]? = some o ∧ o.dst = some t ∧ (S (i + 1)).1.lookup t = some v) ∨
  ((∀ (i : Nat) o, D i → ops[i]? = some o → o.dst ≠ some t) ∧ (S 0).1.lookup t = some v)

/-- A block that was made ahead of its place in the text. -/
structure EarlyOK (B : Nat) (ι : Emb) (b : Blk) (l : Loc) (m : Mem) (w w0 : World) : Prop where
  mt : Match ι b l w
  base : B ≤ l.g
  es : b.es = l.es
  own : b.own = true
  live : b.live = true
  apart : ∀ k l' b', ι k = some l' → m[k]? = some b' → b'.live = true → l'.g ≠ l.g
  fresh : w0.heap.size ≤ l.g
  cold : ι.fz l.g = none

structure Inv (C : Cfg) (ops : List Oper) (S : Nat → Tm × Mem) (B : Nat) (ι0 : Emb) (a0 : Act) (w0 : World) (D : Nat → Prop) (p : Nat) (ι : Emb) (a : Act) (w : World) : Prop where
  lt : ∀ i, D i → i < ops.length
  closed : ∀ i j, D j → ahead (masks ops []) i j = true → D i
  ple : p ≤ ops.length
  effs : ∀ (i : Nat) o, ops[i]? = some o → cls C o = .eff → (D i ↔ i < p)
  tmp : ∀ t v, TdVal ops S D t v → ∃ v', a.tmps[t]? = some v' ∧ VR ι v v'
  dfr : a.defers = a0.defers
  tsz : a.tmps.size = a0.tmps.size
  rep : Rep B ι (S p).2 w
  hB : B ≤ w.heap.size
  glob : GlobOK C ι
  born : ∀ k l, (S 0).2.length ≤ k → k < (S ops.length).2.length → ι k = some l → k < (S p).2.length ∨ ∃ i b, D i ∧ p ≤ i ∧ IsAlloc C ops S i b ∧ k = (S i).2.length
  early : ∀ i b, D i → p ≤ i → IsAlloc C ops S i b → ∃ l, ι (S i).2.length = some l ∧ EarlyOK B ι b l (S p).2 w w0
  eapart : ∀ i b i' b' l l', i ≠ i' → D i → p ≤ i → IsAlloc C ops S i b → D i' → p ≤ i' → IsAlloc C ops S i' b' → ι (S i).2.length = some l → ι (S i').2.length = some l' → l.g ≠ l'.g
  pend : ∀ i b, ¬ D i → IsAlloc C ops S i b → ι (S i).2.length = none ∧ (i < p → (S p).2[(S i).2.length]? = some b)
  keep : ∀ k, k < (S 0).2.length ∨ (S ops.length).2.length ≤ k → ι k = ι0 k
  frame : ∀ g, g < w0.heap.size → (∀ k l b, ι0 k = some l → (S 0).2[k]? = some b → b.live = true → b.own = true → l.g ≠ g) → w.heap[g]? = w0.heap[g]?
  origin : ∀ k l b, (S 0).2.length ≤ k → ι k = some l → (S p).2[k]? = some b → b.live = true →
    w0.heap.size ≤ l.g ∨ ∃ k0 l0 b0, ι0 k0 = some l0 ∧ (S 0).2[k0]? = some b0 ∧ b0.live = true ∧ b0.own = true ∧ l0.g = l.g
  unreal : ∀ k, k < (S 0).2.length → ι0 k = none → (S p).2[k]? = (S 0).2[k]?
  fzle : ∀ g c, ι0.fz g = some c → ι.fz g = some c
  ice : ∀ g, ι0.fz g = none → ι.fz g = none ∨ w0.heap.size ≤ g ∨ ∃ n l b, ι0 n = some l ∧ (S 0).2[n]? = some b ∧ b.live = true ∧ b.own = true ∧ l.g = g
  os : w.os = w0.os
  tape : w.tape = w0.tape
  output : w.output = w0.output
  size : w0.heap.size ≤ w.heap.size

variable {ι0 : Emb} {a0 : Act} {w0 : World} {D : Nat → Prop} {p : Nat} {ι : Emb} {a : Act} {w : World}

theorem IsAlloc.lt {i : Nat} {b : Blk} (h : IsAlloc C ops S i b) : i < ops.length := by
  obtain ⟨o, h1, _⟩ := h
  exact (List.getElem?_eq_some_iff.1 h1).1

theorem Text.alloc_inj (X : Text C call ops S E) {i j : Nat} {b b' : Blk} (h : IsAlloc C ops S i b) (h' : IsAlloc C ops S j b') (e : (S i).2.length = (S j).2.length) : i = j := by
  rcases Nat.lt_trichotomy i j with hlt | he | hlt
  · have := X.alloc_lt h hlt (Nat.le_of_lt h'.lt); omega
  · exact he
  · have := X.alloc_lt h' hlt (Nat.le_of_lt h.lt); omega

/-- The place up to which what changes memory has run moves over an operation that changes none. -/
theorem Inv.adv (X : Text C call ops S E) (I : Inv C ops S B ι0 a0 w0 D p ι a w) (hp : p < ops.length) (hc : ∀ o, ops[p]? = some o → cls C o ≠ .eff) : Inv C ops S B ι0 a0 w0 D (p + 1) ι a w := by
  have hop : ops[p]? = some ops[p] := List.getElem?_eq_getElem hp
  obtain ⟨nm, hs, _⟩ := X.step p _ hop
  have effs' : ∀ (i : Nat) o, ops[i]? = some o → cls C o = .eff → (D i ↔ i < p + 1) := by
    intro i o ho he
    rw [I.effs i o ho he]
    constructor
    · intro h; omega
    · intro h
      rcases Nat.lt_or_ge i p with h1 | h1
      · exact h1
      · have : i = p := by omega
        subst this
        exact absurd he (hc o ho)
  rcases aStep_mem hs (hc _ hop) with e | ⟨hal, b, e⟩
  · have nal : ∀ b, ¬ IsAlloc C ops S p b := fun b hb => by
      obtain ⟨o, _, _, h3⟩ := hb
      rw [e] at h3
      have := congrArg List.length h3
      simp at this
    have ne : ∀ {i b}, IsAlloc C ops S i b → p ≤ i → p + 1 ≤ i := fun {i b} h1 h2 => by
      rcases Nat.lt_or_ge p i with h | h
      · exact h
      · have : i = p := by omega
        subst this
        exact absurd h1 (nal b)
    refine { lt := I.lt, closed := I.closed, ple := (by omega), effs := effs', tmp := I.tmp, dfr := I.dfr, tsz := I.tsz, rep := (by rw [e]; exact I.rep), hB := I.hB, glob := I.glob, born := ?_, early := ?_, eapart := ?_, pend := ?_, keep := I.keep, frame := I.frame, origin := (by rw [e]; exact I.origin), unreal := (by rw [e]; exact I.unreal), fzle := I.fzle, ice := I.ice, os := I.os, tape := I.tape, output := I.output, size := I.size }
    · intro k l h1 h2 h3
      rw [e]
      rcases I.born k l h1 h2 h3 with h | ⟨i, b, g1, g2, g3, g4⟩
      · exact .inl h
      · exact .inr ⟨i, b, g1, ne g3 g2, g3, g4⟩
    · intro i b h1 h2 h3
      rw [e]
      exact I.early i b h1 (by omega) h3
    · exact fun i b i' b' l l' h0 h1 h2 h3 h4 h5 => I.eapart i b i' b' l l' h0 h1 (by omega) h3 h4 (by omega)
    · intro i b h1 h2
      rw [e]
      refine ⟨(I.pend i b h1 h2).1, fun h => (I.pend i b h1 h2).2 ?_⟩
      rcases Nat.lt_or_ge i p with h' | h'
      · exact h'
      · have : i = p := by omega
        subst this
        exact absurd h2 (nal b)
  · have hA : IsAlloc C ops S p b := ⟨_, hop, hal, e⟩
    have isb : ∀ {b'}, IsAlloc C ops S p b' → b' = b := fun {b'} h => by
      obtain ⟨o, _, _, h3⟩ := h
      rw [e] at h3
      have := List.append_cancel_left h3
      simpa using this.symm
    have g0 := (X.grow_le (Nat.zero_le p) (by omega)).len
    by_cases hD : D p
    · obtain ⟨l, hl, EO⟩ := I.early p b hD (Nat.le_refl _) hA
      refine { lt := I.lt, closed := I.closed, ple := (by omega), effs := effs', tmp := I.tmp, dfr := I.dfr, tsz := I.tsz, rep := ?_, hB := I.hB, glob := I.glob, born := ?_, early := ?_, eapart := ?_, pend := ?_, keep := I.keep, frame := I.frame, origin := ?_, unreal := ?_, fzle := I.fzle, ice := I.ice, os := I.os, tape := I.tape, output := I.output, size := I.size }
      · rw [e]
        refine ⟨fun n l' x h1 h2 h3 => ?_, fun n n' l1 l2 x x' h0 h1 h2 h3 h4 h5 h6 h7 => ?_, fun n l' x h1 h2 h3 h4 => ?_, fun n l' x h1 h2 => ?_, I.rep.frozen, fun n l' x h1 h2 h3 h4 => ?_, fun n l' x h1 h2 h3 h4 => ?_⟩
        · rcases getElem?_snoc h2 with ⟨_, h⟩ | ⟨e1, e2⟩
          · exact I.rep.cells n l' x h1 h h3
          · rw [e1, hl] at h1
            cases h1
            rw [e2]
            exact EO.mt
        · rcases getElem?_snoc h3 with ⟨_, h⟩ | ⟨e1, e2⟩ <;> rcases getElem?_snoc h4 with ⟨_, h'⟩ | ⟨e1', e2'⟩
          · exact I.rep.apart n n' l1 l2 x x' h0 h1 h2 h h' h5 h6 h7
          · rw [e1', hl] at h2
            cases h2
            exact EO.apart n l1 x h1 h h5
          · rw [e1, hl] at h1
            cases h1
            exact fun e => EO.apart n' l2 x' h2 h' h6 e.symm
          · exact absurd (e1.trans e1'.symm) h0
        · rcases getElem?_snoc h2 with ⟨_, h⟩ | ⟨e1, e2⟩
          · exact I.rep.base n l' x h1 h h3 h4
          · rw [e1, hl] at h1
            cases h1
            exact EO.base
        · rcases getElem?_snoc h2 with ⟨_, h⟩ | ⟨e1, e2⟩
          · exact I.rep.es n l' x h1 h
          · rw [e1, hl] at h1
            cases h1
            rw [e2]
            exact EO.es
        · rcases getElem?_snoc h2 with ⟨_, h⟩ | ⟨e1, e2⟩
          · exact I.rep.cold n l' x h1 h h3 h4
          · rw [e1, hl] at h1
            cases h1
            exact EO.cold
        · rcases getElem?_snoc h2 with ⟨_, h⟩ | ⟨e1, e2⟩
          · exact I.rep.kept n l' x h1 h h3 h4
          · rw [e2, EO.own] at h4
            cases h4
      · intro k l' h1 h2 h3
        rw [e]
        rcases I.born k l' h1 h2 h3 with h | ⟨i, b', g1, g2, g3, g4⟩
        · left; simp; omega
        · rcases Nat.lt_or_ge p i with h | h
          · exact .inr ⟨i, b', g1, h, g3, g4⟩
          · have : i = p := by omega
            subst this
            left; simp; omega
      · intro i b' h1 h2 h3
        obtain ⟨l', e1, EO'⟩ := I.early i b' h1 (by omega) h3
        refine ⟨l', e1, { EO' with apart := ?_ }⟩
        intro k l2 b2 q1 q2 q3
        rw [e] at q2
        rcases getElem?_snoc q2 with ⟨_, h⟩ | ⟨f1, f2⟩
        · exact EO'.apart k l2 b2 q1 h q3
        · rw [f1] at q1
          exact I.eapart p b i b' l2 l' (by omega) hD (Nat.le_refl _) hA h1 (by omega) h3 q1 e1
      · exact fun i b i' b' l l' h0 h1 h2 h3 h4 h5 => I.eapart i b i' b' l l' h0 h1 (by omega) h3 h4 (by omega)
      · intro i b' h1 h2
        refine ⟨(I.pend i b' h1 h2).1, fun h => ?_⟩
        rcases Nat.lt_or_ge i p with h' | h'
        · have := (I.pend i b' h1 h2).2 h'
          rw [e, List.getElem?_append_left (List.getElem?_eq_some_iff.1 this).1]
          exact this
        · have : i = p := by omega
          subst this
          exact absurd hD h1
      · intro k l' x h1 h2 h3 h4
        rw [e] at h3
        rcases getElem?_snoc h3 with ⟨_, h⟩ | ⟨f1, f2⟩
        · exact I.origin k l' x h1 h2 h h4
        · rw [f1, hl] at h2
          cases h2
          exact .inl EO.fresh
      · intro k h1 h2
        rw [e, List.getElem?_append_left (by omega)]
        exact I.unreal k h1 h2
    · have hn := (I.pend p b hD hA).1
      refine { lt := I.lt, closed := I.closed, ple := (by omega), effs := effs', tmp := I.tmp, dfr := I.dfr, tsz := I.tsz, rep := ?_, hB := I.hB, glob := I.glob, born := ?_, early := ?_, eapart := ?_, pend := ?_, keep := I.keep, frame := I.frame, origin := ?_, unreal := ?_, fzle := I.fzle, ice := I.ice, os := I.os, tape := I.tape, output := I.output, size := I.size }
      · rw [e]
        have old : ∀ {n l' x}, ι n = some l' → ((S p).2 ++ [b])[n]? = some x → (S p).2[n]? = some x := fun {n l' x} h1 h2 => by
          rcases getElem?_snoc h2 with ⟨_, h⟩ | ⟨e1, e2⟩
          · exact h
          · rw [e1, hn] at h1; cases h1
        exact ⟨fun n l' x h1 h2 h3 => I.rep.cells n l' x h1 (old h1 h2) h3, fun n n' l1 l2 x x' h0 h1 h2 h3 h4 h5 h6 h7 => I.rep.apart n n' l1 l2 x x' h0 h1 h2 (old h1 h3) (old h2 h4) h5 h6 h7,
          fun n l' x h1 h2 h3 h4 => I.rep.base n l' x h1 (old h1 h2) h3 h4, fun n l' x h1 h2 => I.rep.es n l' x h1 (old h1 h2), I.rep.frozen, fun n l' x h1 h2 h3 h4 => I.rep.cold n l' x h1 (old h1 h2) h3 h4, fun n l' x h1 h2 h3 h4 => I.rep.kept n l' x h1 (old h1 h2) h3 h4⟩
      · intro k l' h1 h2 h3
        rw [e]
        rcases I.born k l' h1 h2 h3 with h | ⟨i, b', g1, g2, g3, g4⟩
        · left; simp; omega
        · rcases Nat.lt_or_ge p i with h | h
          · exact .inr ⟨i, b', g1, h, g3, g4⟩
          · have : i = p := by omega
            subst this
            exact absurd g1 hD
      · intro i b' h1 h2 h3
        obtain ⟨l', e1, EO'⟩ := I.early i b' h1 (by omega) h3
        refine ⟨l', e1, { EO' with apart := ?_ }⟩
        intro k l2 b2 q1 q2 q3
        rw [e] at q2
        rcases getElem?_snoc q2 with ⟨_, h⟩ | ⟨f1, f2⟩
        · exact EO'.apart k l2 b2 q1 h q3
        · rw [f1, hn] at q1; cases q1
      · exact fun i b i' b' l l' h0 h1 h2 h3 h4 h5 => I.eapart i b i' b' l l' h0 h1 (by omega) h3 h4 (by omega)
      · intro i b' h1 h2
        refine ⟨(I.pend i b' h1 h2).1, fun h => ?_⟩
        rcases Nat.lt_or_ge i p with h' | h'
        · have := (I.pend i b' h1 h2).2 h'
          rw [e, List.getElem?_append_left (List.getElem?_eq_some_iff.1 this).1]
          exact this
        · have : i = p := by omega
          subst this
          rw [isb h2, e]
          simp
      · intro k l' x h1 h2 h3 h4
        rw [e] at h3
        rcases getElem?_snoc h3 with ⟨_, h⟩ | ⟨f1, f2⟩
        · exact I.origin k l' x h1 h2 h h4
        · rw [f1, hn] at h2; cases h2
      · intro k h1 h2
        rw [e, List.getElem?_append_left (by omega)]
        exact I.unreal k h1 h2

theorem Inv.adv_to (X : Text C call ops S E) {q : Nat} (I : Inv C ops S B ι0 a0 w0 D p ι a w) (hpq : p ≤ q) (hq : q ≤ ops.length) (hc : ∀ (i : Nat) o, p ≤ i → i < q → ops[i]? = some o → cls C o ≠ .eff) : Inv C ops S B ι0 a0 w0 D q ι a w := by
  induction q with
  | zero => have : p = 0 := by omega
            subst this; exact I
  | succ q ih =>
    rcases Nat.lt_or_ge p (q + 1) with h | h
    · exact (ih (by omega) (by omega) fun i o h1 h2 h3 => hc i o h1 (by omega) h3).adv X (by omega) fun o ho => hc q o (by omega) (by omega) ho
    · have : p = q + 1 := by omega
      subst this; exact I
end
end Go.Ab
