/- Part of an own evaluator of Go code on numbered blocks, and of the proof that the machine does what it says; each theorem carries its own conditions. -/
import Derived.Test.YtiepalcnkcjphaaAbA
import Derived.Laws.Sem
set_option linter.unusedVariables false
set_option linter.unusedSimpArgs false
namespace Go.Ab
section
variable {C : Cfg} {call : CallF} {ops : List Oper} {B : Nat}
structure Text (C : Cfg) (call : CallF) (ops : List Oper) (S : Nat → Tm × Mem) (E : List Ev) : Prop where
  step : ∀ (i : Nat) o, ops[i]? = some o → ∃ nm, aStep C call ops (S i).1 (S i).2 o = some ((S (i + 1)).1, (S (i + 1)).2, nm) ∧ E[i]? = some ⟨(S i).2, (S (i + 1)).2, nm⟩
  grow : CallGrow call
  draw : drawOk C ops = true
  stable : Stable C ops E
variable {S : Nat → Tm × Mem} {E : List Ev}
def IsAlloc (C : Cfg) (ops : List Oper) (S : Nat → Tm × Mem) (i : Nat) (b : Blk) : Prop := ∃ o, ops[i]? = some o ∧ cls C o = .alloc ∧ (S (i + 1)).2 = (S i).2 ++ [b]
theorem Text.grow1 (X : Text C call ops S E) {i : Nat} (hi : i < ops.length) : Grow (S i).2 (S (i + 1)).2 := by
  obtain ⟨nm, h, _⟩ := X.step i _ (List.getElem?_eq_getElem hi)
  exact aStep_grows X.grow h
theorem Text.grow_le (X : Text C call ops S E) {i j : Nat} (hij : i ≤ j) (hj : j ≤ ops.length) : Grow (S i).2 (S j).2 := by
  induction j with
  | zero => have : i = 0 := by omega
            subst this; exact .refl _
  | succ j ih =>
    rcases Nat.lt_or_ge i (j + 1) with h | h
    · exact (ih (by omega) (by omega)).trans (X.grow1 (by omega))
    · have : i = j + 1 := by omega
      subst this; exact .refl _
theorem Text.alloc_lt (X : Text C call ops S E) {i j : Nat} {b : Blk} (hb : IsAlloc C ops S i b) (hij : i < j) (hj : j ≤ ops.length) : (S i).2.length < (S j).2.length := by
  obtain ⟨o, h1, h2, h3⟩ := hb
  have := (X.grow_le (show i + 1 ≤ j by omega) hj).len
  rw [h3] at this
  simp at this
  omega
theorem Text.lookup_between (X : Text C call ops S E) {t i j : Nat} (hij : i ≤ j) (hj : j ≤ ops.length) (hw : ∀ (k : Nat) o, i ≤ k → k < j → ops[k]? = some o → o.dst ≠ some t) : (S j).1.lookup t = (S i).1.lookup t := by
  induction j with
  | zero => have : i = 0 := by omega
            subst this; rfl
  | succ j ih =>
    rcases Nat.lt_or_ge i (j + 1) with h | h
    · have hjl : j < ops.length := by omega
      obtain ⟨nm, hs, _⟩ := X.step j _ (List.getElem?_eq_getElem hjl)
      obtain ⟨v, hv⟩ := aStep_temps hs
      rw [hv, lookup_putD (hw j _ (by omega) (by omega) (List.getElem?_eq_getElem hjl))]
      exact ih (by omega) (by omega) fun k o h1 h2 h3 => hw k o h1 (by omega) h3
    · have : i = j + 1 := by omega
      subst this; rfl
def look (m : Mem) (k : Nat) : Option (List Value × Bool) := (m[k]?).map fun x => (x.cells, x.live)
theorem Text.block_between (X : Text C call ops S E) {j : Nat} {o : Oper} (hoj : ops[j]? = some o) (hr : cls C o = .read) {nm : Nat} {T' : Tm} {m' : Mem} (hs : aStep C call ops (S j).1 (S j).2 o = some (T', m', some nm))
    {i k : Nat} (hik : i ≤ k) (hk : k ≤ ops.length) (hlen : nm < (S i).2.length)
    (hno : ∀ (e : Nat) p, i ≤ e → e < k → ops[e]? = some p → cls C p = .eff → (if e < j then ahead (masks ops []) e j else ahead (masks ops []) j e) = false) :
    look (S k).2 nm = look (S i).2 nm := by
  induction k with
  | zero => have : i = 0 := by omega
            subst this; rfl
  | succ k ih =>
    rcases Nat.lt_or_ge i (k + 1) with h | h
    · have hkl : k < ops.length := by omega
      have ih' := ih (by omega) (by omega) (fun e p h1 h2 h3 h4 => hno e p h1 (by omega) h3 h4)
      obtain ⟨nk, hsk, hEk⟩ := X.step k _ (List.getElem?_eq_getElem hkl)
      by_cases hc : cls C ops[k] = .eff
      · have hp := pairs_mem (C := C) hoj (List.getElem?_eq_getElem hkl) hr hc (hno k _ (by omega) (by omega) (List.getElem?_eq_getElem hkl) hc)
        have hst := X.stable _ hp
        obtain ⟨nj, hsj, hEj⟩ := X.step j o hoj
        rw [hs] at hsj
        simp only [Option.some.injEq, Prod.mk.injEq] at hsj
        unfold stab at hst
        simp only [hEj, hEk] at hst
        rw [← hsj.2.2] at hst
        simp only at hst
        exact hst.trans ih'
      · rcases aStep_mem hsk hc with e | ⟨_, b, e⟩
        · rw [e]; exact ih'
        · rw [← ih']
          unfold look
          rw [e, List.getElem?_append_left]
          have := (X.grow_le (show i ≤ k by omega) (by omega)).len
          omega
    · have : i = k + 1 := by omega
      subst this; rfl
def TdVal (ops : List Oper) (S : Nat → Tm × Mem) (D : Nat → Prop) (t : Nat) (v : Value) : Prop :=
  (∃ i o, D i ∧ ops[i]? = some o ∧ o.dst = some t ∧ (S (i + 1)).1.lookup t = some v) ∨
  ((∀ (i : Nat) o, D i → ops[i]? = some o → o.dst ≠ some t) ∧ (S 0).1.lookup t = some v)
structure EarlyOK (B : Nat) (ι : Emb) (b : Blk) (l : Loc) (m : Mem) (w w0 : World) : Prop where
  mt : Match ι b l w
  base : B ≤ l.g
  es : b.es = l.es
  own : b.own = true
  live : b.live = true
  apart : ∀ k l' b', ι k = some l' → m[k]? = some b' → b'.live = true → l'.g ≠ l.g
  fresh : w0.heap.size ≤ l.g
  cold : ι.fz l.g = none
structure Inv (C : Cfg) (ops : List Oper) (S : Nat → Tm × Mem) (B : Nat) (ι0 : Emb) (a0 : Act) (w0 : World) (D : Nat → Prop) (p : Nat) (ι : Emb) (a : Act) (w : World) : Prop where
  lt : ∀ i, D i → i < ops.length
  closed : ∀ i j, D j → ahead (masks ops []) i j = true → D i
  ple : p ≤ ops.length
  effs : ∀ (i : Nat) o, ops[i]? = some o → cls C o = .eff → (D i ↔ i < p)
  tmp : ∀ t v, TdVal ops S D t v → ∃ v', a.tmps[t]? = some v' ∧ VR ι v v'
  dfr : a.defers = a0.defers
  tsz : a.tmps.size = a0.tmps.size
  rep : Rep B ι (S p).2 w
  hB : B ≤ w.heap.size
  glob : GlobOK C ι
  born : ∀ k l, (S 0).2.length ≤ k → k < (S ops.length).2.length → ι k = some l → k < (S p).2.length ∨ ∃ i b, D i ∧ p ≤ i ∧ IsAlloc C ops S i b ∧ k = (S i).2.length
  early : ∀ i b, D i → p ≤ i → IsAlloc C ops S i b → ∃ l, ι (S i).2.length = some l ∧ EarlyOK B ι b l (S p).2 w w0
  eapart : ∀ i b i' b' l l', i ≠ i' → D i → p ≤ i → IsAlloc C ops S i b → D i' → p ≤ i' → IsAlloc C ops S i' b' → ι (S i).2.length = some l → ι (S i').2.length = some l' → l.g ≠ l'.g
  pend : ∀ i b, ¬ D i → IsAlloc C ops S i b → ι (S i).2.length = none ∧ (i < p → (S p).2[(S i).2.length]? = some b)
  keep : ∀ k, k < (S 0).2.length ∨ (S ops.length).2.length ≤ k → ι k = ι0 k
  frame : ∀ g, g < w0.heap.size → (∀ k l b, ι0 k = some l → (S 0).2[k]? = some b → b.live = true → b.own = true → l.g ≠ g) → w.heap[g]? = w0.heap[g]?
  origin : ∀ k l b, (S 0).2.length ≤ k → ι k = some l → (S p).2[k]? = some b → b.live = true →
    w0.heap.size ≤ l.g ∨ ∃ k0 l0 b0, ι0 k0 = some l0 ∧ (S 0).2[k0]? = some b0 ∧ b0.live = true ∧ b0.own = true ∧ l0.g = l.g
  unreal : ∀ k, k < (S 0).2.length → ι0 k = none → (S p).2[k]? = (S 0).2[k]?
  fzle : ∀ g c, ι0.fz g = some c → ι.fz g = some c
  ice : ∀ g, ι0.fz g = none → ι.fz g = none ∨ w0.heap.size ≤ g ∨ ∃ n l b, ι0 n = some l ∧ (S 0).2[n]? = some b ∧ b.live = true ∧ b.own = true ∧ l.g = g
  os : w.os = w0.os
  tape : w.tape = w0.tape
  output : w.output = w0.output
  size : w0.heap.size ≤ w.heap.size
variable {ι0 : Emb} {a0 : Act} {w0 : World} {D : Nat → Prop} {p : Nat} {ι : Emb} {a : Act} {w : World}
theorem IsAlloc.lt {i : Nat} {b : Blk} (h : IsAlloc C ops S i b) : i < ops.length := by
  obtain ⟨o, h1, _⟩ := h
  exact (List.getElem?_eq_some_iff.1 h1).1
theorem Text.alloc_inj (X : Text C call ops S E) {i j : Nat} {b b' : Blk} (h : IsAlloc C ops S i b) (h' : IsAlloc C ops S j b') (e : (S i).2.length = (S j).2.length) : i = j := by
  rcases Nat.lt_trichotomy i j with hlt | he | hlt
  · have := X.alloc_lt h hlt (Nat.le_of_lt h'.lt); omega
  · exact he
  · have := X.alloc_lt h' hlt (Nat.le_of_lt h.lt); omega
theorem Inv.adv (X : Text C call ops S E) (I : Inv C ops S B ι0 a0 w0 D p ι a w) (hp : p < ops.length) (hc : ∀ o, ops[p]? = some o → cls C o ≠ .eff) : Inv C ops S B ι0 a0 w0 D (p + 1) ι a w := by
  have hop : ops[p]? = some ops[p] := List.getElem?_eq_getElem hp
  obtain ⟨nm, hs, _⟩ := X.step p _ hop
  have effs' : ∀ (i : Nat) o, ops[i]? = some o → cls C o = .eff → (D i ↔ i < p + 1) := by
    intro i o ho he
    rw [I.effs i o ho he]
    constructor
    · intro h; omega
    · intro h
      rcases Nat.lt_or_ge i p with h1 | h1
      · exact h1
      · have : i = p := by omega
        subst this
        exact absurd he (hc o ho)
  rcases aStep_mem hs (hc _ hop) with e | ⟨hal, b, e⟩
  · have nal : ∀ b, ¬ IsAlloc C ops S p b := fun b hb => by
      obtain ⟨o, _, _, h3⟩ := hb
      rw [e] at h3
      have := congrArg List.length h3
      simp at this
    have ne : ∀ {i b}, IsAlloc C ops S i b → p ≤ i → p + 1 ≤ i := fun {i b} h1 h2 => by
      rcases Nat.lt_or_ge p i with h | h
      · exact h
      · have : i = p := by omega
        subst this
        exact absurd h1 (nal b)
    refine { lt := I.lt, closed := I.closed, ple := (by omega), effs := effs', tmp := I.tmp, dfr := I.dfr, tsz := I.tsz, rep := (by rw [e]; exact I.rep), hB := I.hB, glob := I.glob, born := ?_, early := ?_, eapart := ?_, pend := ?_, keep := I.keep, frame := I.frame, origin := (by rw [e]; exact I.origin), unreal := (by rw [e]; exact I.unreal), fzle := I.fzle, ice := I.ice, os := I.os, tape := I.tape, output := I.output, size := I.size }
    · intro k l h1 h2 h3
      rw [e]
      rcases I.born k l h1 h2 h3 with h | ⟨i, b, g1, g2, g3, g4⟩
      · exact .inl h
      · exact .inr ⟨i, b, g1, ne g3 g2, g3, g4⟩
    · intro i b h1 h2 h3
      rw [e]
      exact I.early i b h1 (by omega) h3
    · exact fun i b i' b' l l' h0 h1 h2 h3 h4 h5 => I.eapart i b i' b' l l' h0 h1 (by omega) h3 h4 (by omega)
    · intro i b h1 h2
      rw [e]
      refine ⟨(I.pend i b h1 h2).1, fun h => (I.pend i b h1 h2).2 ?_⟩
      rcases Nat.lt_or_ge i p with h' | h'
      · exact h'
      · have : i = p := by omega
        subst this
        exact absurd h2 (nal b)
  · have hA : IsAlloc C ops S p b := ⟨_, hop, hal, e⟩
    have isb : ∀ {b'}, IsAlloc C ops S p b' → b' = b := fun {b'} h => by
      obtain ⟨o, _, _, h3⟩ := h
      rw [e] at h3
      have := List.append_cancel_left h3
      simpa using this.symm
    have g0 := (X.grow_le (Nat.zero_le p) (by omega)).len
    by_cases hD : D p
    · obtain ⟨l, hl, EO⟩ := I.early p b hD (Nat.le_refl _) hA
      refine { lt := I.lt, closed := I.closed, ple := (by omega), effs := effs', tmp := I.tmp, dfr := I.dfr, tsz := I.tsz, rep := ?_, hB := I.hB, glob := I.glob, born := ?_, early := ?_, eapart := ?_, pend := ?_, keep := I.keep, frame := I.frame, origin := ?_, unreal := ?_, fzle := I.fzle, ice := I.ice, os := I.os, tape := I.tape, output := I.output, size := I.size }
      · rw [e]
        refine ⟨fun n l' x h1 h2 h3 => ?_, fun n n' l1 l2 x x' h0 h1 h2 h3 h4 h5 h6 h7 => ?_, fun n l' x h1 h2 h3 h4 => ?_, fun n l' x h1 h2 => ?_, I.rep.frozen, fun n l' x h1 h2 h3 h4 => ?_, fun n l' x h1 h2 h3 h4 => ?_⟩
        · rcases getElem?_snoc h2 with ⟨_, h⟩ | ⟨e1, e2⟩
          · exact I.rep.cells n l' x h1 h h3
          · rw [e1, hl] at h1
            cases h1
            rw [e2]
            exact EO.mt
        · rcases getElem?_snoc h3 with ⟨_, h⟩ | ⟨e1, e2⟩ <;> rcases getElem?_snoc h4 with ⟨_, h'⟩ | ⟨e1', e2'⟩
          · exact I.rep.apart n n' l1 l2 x x' h0 h1 h2 h h' h5 h6 h7
          · rw [e1', hl] at h2
            cases h2
            exact EO.apart n l1 x h1 h h5
          · rw [e1, hl] at h1
            cases h1
            exact fun e => EO.apart n' l2 x' h2 h' h6 e.symm
          · exact absurd (e1.trans e1'.symm) h0
        · rcases getElem?_snoc h2 with ⟨_, h⟩ | ⟨e1, e2⟩
          · exact I.rep.base n l' x h1 h h3 h4
          · rw [e1, hl] at h1
            cases h1
            exact EO.base
        · rcases getElem?_snoc h2 with ⟨_, h⟩ | ⟨e1, e2⟩
          · exact I.rep.es n l' x h1 h
          · rw [e1, hl] at h1
            cases h1
            rw [e2]
            exact EO.es
        · rcases getElem?_snoc h2 with ⟨_, h⟩ | ⟨e1, e2⟩
          · exact I.rep.cold n l' x h1 h h3 h4
          · rw [e1, hl] at h1
            cases h1
            exact EO.cold
        · rcases getElem?_snoc h2 with ⟨_, h⟩ | ⟨e1, e2⟩
          · exact I.rep.kept n l' x h1 h h3 h4
          · rw [e2, EO.own] at h4
            cases h4
      · intro k l' h1 h2 h3
        rw [e]
        rcases I.born k l' h1 h2 h3 with h | ⟨i, b', g1, g2, g3, g4⟩
        · left; simp; omega
        · rcases Nat.lt_or_ge p i with h | h
          · exact .inr ⟨i, b', g1, h, g3, g4⟩
          · have : i = p := by omega
            subst this
            left; simp; omega
      · intro i b' h1 h2 h3
        obtain ⟨l', e1, EO'⟩ := I.early i b' h1 (by omega) h3
        refine ⟨l', e1, { EO' with apart := ?_ }⟩
        intro k l2 b2 q1 q2 q3
        rw [e] at q2
        rcases getElem?_snoc q2 with ⟨_, h⟩ | ⟨f1, f2⟩
        · exact EO'.apart k l2 b2 q1 h q3
        · rw [f1] at q1
          exact I.eapart p b i b' l2 l' (by omega) hD (Nat.le_refl _) hA h1 (by omega) h3 q1 e1
      · exact fun i b i' b' l l' h0 h1 h2 h3 h4 h5 => I.eapart i b i' b' l l' h0 h1 (by omega) h3 h4 (by omega)
      · intro i b' h1 h2
        refine ⟨(I.pend i b' h1 h2).1, fun h => ?_⟩
        rcases Nat.lt_or_ge i p with h' | h'
        · have := (I.pend i b' h1 h2).2 h'
          rw [e, List.getElem?_append_left (List.getElem?_eq_some_iff.1 this).1]
          exact this
        · have : i = p := by omega
          subst this
          exact absurd hD h1
      · intro k l' x h1 h2 h3 h4
        rw [e] at h3
        rcases getElem?_snoc h3 with ⟨_, h⟩ | ⟨f1, f2⟩
        · exact I.origin k l' x h1 h2 h h4
        · rw [f1, hl] at h2
          cases h2
          exact .inl EO.fresh
      · intro k h1 h2
        rw [e, List.getElem?_append_left (by omega)]
        exact I.unreal k h1 h2
    · have hn := (I.pend p b hD hA).1
      refine { lt := I.lt, closed := I.closed, ple := (by omega), effs := effs', tmp := I.tmp, dfr := I.dfr, tsz := I.tsz, rep := ?_, hB := I.hB, glob := I.glob, born := ?_, early := ?_, eapart := ?_, pend := ?_, keep := I.keep, frame := I.frame, origin := ?_, unreal := ?_, fzle := I.fzle, ice := I.ice, os := I.os, tape := I.tape, output := I.output, size := I.size }
      · rw [e]
        have old : ∀ {n l' x}, ι n = some l' → ((S p).2 ++ [b])[n]? = some x → (S p).2[n]? = some x := fun {n l' x} h1 h2 => by
          rcases getElem?_snoc h2 with ⟨_, h⟩ | ⟨e1, e2⟩
          · exact h
          · rw [e1, hn] at h1; cases h1
        exact ⟨fun n l' x h1 h2 h3 => I.rep.cells n l' x h1 (old h1 h2) h3, fun n n' l1 l2 x x' h0 h1 h2 h3 h4 h5 h6 h7 => I.rep.apart n n' l1 l2 x x' h0 h1 h2 (old h1 h3) (old h2 h4) h5 h6 h7,
          fun n l' x h1 h2 h3 h4 => I.rep.base n l' x h1 (old h1 h2) h3 h4, fun n l' x h1 h2 => I.rep.es n l' x h1 (old h1 h2), I.rep.frozen, fun n l' x h1 h2 h3 h4 => I.rep.cold n l' x h1 (old h1 h2) h3 h4, fun n l' x h1 h2 h3 h4 => I.rep.kept n l' x h1 (old h1 h2) h3 h4⟩
      · intro k l' h1 h2 h3
        rw [e]
        rcases I.born k l' h1 h2 h3 with h | ⟨i, b', g1, g2, g3, g4⟩
        · left; simp; omega
        · rcases Nat.lt_or_ge p i with h | h
          · exact .inr ⟨i, b', g1, h, g3, g4⟩
          · have : i = p := by omega
            subst this
            exact absurd g1 hD
      · intro i b' h1 h2 h3
        obtain ⟨l', e1, EO'⟩ := I.early i b' h1 (by omega) h3
        refine ⟨l', e1, { EO' with apart := ?_ }⟩
        intro k l2 b2 q1 q2 q3
        rw [e] at q2
        rcases getElem?_snoc q2 with ⟨_, h⟩ | ⟨f1, f2⟩
        · exact EO'.apart k l2 b2 q1 h q3
        · rw [f1, hn] at q1; cases q1
      · exact fun i b i' b' l l' h0 h1 h2 h3 h4 h5 => I.eapart i b i' b' l l' h0 h1 (by omega) h3 h4 (by omega)
      · intro i b' h1 h2
        refine ⟨(I.pend i b' h1 h2).1, fun h => ?_⟩
        rcases Nat.lt_or_ge i p with h' | h'
        · have := (I.pend i b' h1 h2).2 h'
          rw [e, List.getElem?_append_left (List.getElem?_eq_some_iff.1 this).1]
          exact this
        · have : i = p := by omega
          subst this
          rw [isb h2, e]
          simp
      · intro k l' x h1 h2 h3 h4
        rw [e] at h3
        rcases getElem?_snoc h3 with ⟨_, h⟩ | ⟨f1, f2⟩
        · exact I.origin k l' x h1 h2 h h4
        · rw [f1, hn] at h2; cases h2
      · intro k h1 h2
        rw [e, List.getElem?_append_left (by omega)]
        exact I.unreal k h1 h2
theorem Inv.adv_to (X : Text C call ops S E) {q : Nat} (I : Inv C ops S B ι0 a0 w0 D p ι a w) (hpq : p ≤ q) (hq : q ≤ ops.length) (hc : ∀ (i : Nat) o, p ≤ i → i < q → ops[i]? = some o → cls C o ≠ .eff) : Inv C ops S B ι0 a0 w0 D q ι a w := by
  induction q with
  | zero => have : p = 0 := by omega
            subst this; exact I
  | succ q ih =>
    rcases Nat.lt_or_ge p (q + 1) with h | h
    · exact (ih (by omega) (by omega) fun i o h1 h2 h3 => hc i o h1 (by omega) h3).adv X (by omega) fun o ho => hc q o (by omega) (by omega) ho
    · have : p = q + 1 := by omega
      subst this; exact I
end
end Go.Ab
namespace Go.Ab
section
variable {C : Cfg} {call : CallF} {ops : List Oper} {B : Nat}
variable {S : Nat → Tm × Mem} {E : List Ev}
variable {ι0 : Emb} {a0 : Act} {w0 : World} {D : Nat → Prop} {p : Nat} {ι : Emb} {a : Act} {w : World}
theorem lookup_filter (T : Tm) (L : List Nat) (t : Nat) : (T.filter fun x => L.contains x.1).lookup t = if L.contains t = true then T.lookup t else none := by
  induction T with
  | nil => simp
  | cons x T ih =>
    obtain ⟨k, v⟩ := x
    by_cases hk : L.contains k = true
    · rw [List.filter_cons_of_pos (by exact hk), List.lookup_cons, List.lookup_cons, ih]
      by_cases e : t = k
      · subst e; simp only [beq_self_eq_true, hk, if_true]
      · have : (t == k) = false := by simpa using e
        rw [this]
    · rw [List.filter_cons_of_neg (by exact hk), List.lookup_cons, ih]
      by_cases e : t = k
      · subst e
        simp only [beq_self_eq_true]
        rw [if_neg hk, if_neg hk]
      · have : (t == k) = false := by simpa using e
        rw [this]
theorem Text.writer (X : Text C call ops S E) {i j : Nat} {o o' : Oper} {t : Nat} (h1 : ops[i]? = some o) (h2 : ops[j]? = some o') (d1 : o.dst = some t) (d2 : o'.dst = some t) : i = j := by
  by_cases e : i = j
  · exact e
  · exact absurd d2 (tmps_apart X.draw h1 h2 e d1).1
theorem Inv.looks (X : Text C call ops S E) (I : Inv C ops S B ι0 a0 w0 D p ι a w) {j : Nat} {o : Oper} (ho : ops[j]? = some o) (hj : ¬ D j) (hpre : ∀ i, ahead (masks ops []) i j = true → D i) {t : Nat} (ht : t ∈ o.looksAt ops.toArray) {v : Value} (hv : (S j).1.lookup t = some v) :
    ∃ v', a.tmps[t]? = some v' ∧ VR ι v v' := by
  have hjl : j < ops.length := (List.getElem?_eq_some_iff.1 ho).1
  apply I.tmp
  by_cases h : ∃ i o', i < j ∧ ops[i]? = some o' ∧ o'.dst = some t
  · obtain ⟨i, o', hij, h1, h2⟩ := h
    left
    have ha := (tmps_apart X.draw h1 ho (by omega) h2).2 ht
    rw [if_pos hij] at ha
    refine ⟨i, o', hpre i ha, h1, h2, ?_⟩
    rw [← X.lookup_between (show i + 1 ≤ j by omega) (by omega)]
    · exact hv
    · intro k o2 g1 g2 g3 g4
      have := X.writer h1 g3 h2 g4
      omega
  · right
    refine ⟨fun i o' hi h1 h2 => ?_, ?_⟩
    · rcases Nat.lt_trichotomy i j with g | g | g
      · exact h ⟨i, o', g, h1, h2⟩
      · subst g; exact hj hi
      · have ha := (tmps_apart X.draw h1 ho (by omega) h2).2 ht
        rw [if_neg (by omega)] at ha
        exact hj (I.closed j i hi ha)
    · rw [← X.lookup_between (Nat.zero_le j) (by omega)]
      · exact hv
      · intro k o2 g1 g2 g3 g4
        exact h ⟨k, o2, g2, g3, g4⟩
def lookT (ops : List Oper) (T : Tm) (o : Oper) : Tm := T.filter fun x => (o.looksAt ops.toArray).contains x.1
theorem lookT_ev {T : Tm} {o : Oper} : ∀ x ∈ o.op.operands, ev C (lookT ops T o) x = ev C T x := by
  intro x hx
  apply ev_congr
  rintro t rfl
  unfold lookT
  rw [lookup_filter, if_pos]
  simp only [List.contains_iff_mem]
  unfold Oper.looksAt
  rw [List.mem_append]
  left
  rw [List.mem_filterMap]
  exact ⟨.tmp t, by simpa using hx, rfl⟩
theorem Inv.lookT (X : Text C call ops S E) (I : Inv C ops S B ι0 a0 w0 D p ι a w) {j : Nat} {o : Oper} (ho : ops[j]? = some o) (hj : ¬ D j) (hpre : ∀ i, ahead (masks ops []) i j = true → D i) : TR ι (Ab.lookT ops (S j).1 o) a.tmps := by
  intro t v hv
  unfold Ab.lookT at hv
  rw [lookup_filter] at hv
  split at hv
  · rename_i hc
    exact I.looks X ho hj hpre (by simpa using hc) hv
  · cases hv
theorem Inv.tmp_next (X : Text C call ops S E) (I : Inv C ops S B ι0 a0 w0 D p ι a w) {N : Nat} (hN : N ≤ a.tmps.size) {j : Nat} {o : Oper} (ho : ops[j]? = some o) (hd : o.dst.all (· < N) = true)
    {u : Value} (hS : (S (j + 1)).1 = putD (S j).1 o.dst u) {ι' : Emb} (hle : ι.le ι') {u' : Value} (r : VR ι' u u') (t : Nat) (v : Value) (h : TdVal ops S (fun i => D i ∨ i = j) t v) :
    ∃ v', (a.put o.dst u').tmps[t]? = some v' ∧ VR ι' v v' := by
  by_cases hdt : o.dst = some t
  · have : v = u := by
      rcases h with ⟨i, o', _, h2, h3, h4⟩ | ⟨h1, _⟩
      · have := X.writer h2 ho h3 hdt
        subst this
        rw [hS, hdt] at h4
        simp [putD] at h4
        exact h4.symm
      · exact absurd hdt (h1 j o (.inr rfl) ho)
    subst this
    refine ⟨u', ?_, r⟩
    rw [hdt] at hd ⊢
    simp at hd
    have ht : t < a.tmps.size := by omega
    simp [Act.put, ht]
  · have : TdVal ops S D t v := by
      rcases h with ⟨i, o', h1, h2, h3, h4⟩ | ⟨h1, h2⟩
      · rcases h1 with h1 | h1
        · exact .inl ⟨i, o', h1, h2, h3, h4⟩
        · subst h1
          rw [ho] at h2
          cases h2
          exact absurd h3 hdt
      · exact .inr ⟨fun i o' h3 => h1 i o' (.inl h3), h2⟩
    obtain ⟨v', h1, h2⟩ := I.tmp t v this
    refine ⟨v', ?_, h2.mono hle⟩
    cases hdd : o.dst with
    | none => exact h1
    | some d =>
      simp only [Act.put]
      rw [Array.getElem?_setIfInBounds_ne]
      · exact h1
      · intro e; subst e; exact hdt hdd
theorem closed_next (hcl : ∀ i j, D j → ahead (masks ops []) i j = true → D i) {j : Nat} (hpre : ∀ i, ahead (masks ops []) i j = true → D i) : ∀ i k, (D k ∨ k = j) → ahead (masks ops []) i k = true → (D i ∨ i = j) := by
  intro i k h1 h2
  rcases h1 with h1 | h1
  · exact .inl (hcl i k h1 h2)
  · subst h1; exact .inl (hpre i h2)
theorem Inv.idle (X : Text C call ops S E) (I : Inv C ops S B ι0 a0 w0 D p ι a w) {N : Nat} (hN : N ≤ a.tmps.size) {j : Nat} {o : Oper} (ho : ops[j]? = some o) (hd : o.dst.all (· < N) = true) (hpre : ∀ i, ahead (masks ops []) i j = true → D i)
    (hc : cls C o ≠ .eff) (hmem : (S (j + 1)).2 = (S j).2) {u : Value} (hS : (S (j + 1)).1 = putD (S j).1 o.dst u) {u' : Value} (r : VR ι u u') :
    Inv C ops S B ι0 a0 w0 (fun i => D i ∨ i = j) p ι (a.put o.dst u') w := by
  have hjl : j < ops.length := (List.getElem?_eq_some_iff.1 ho).1
  have nal : ∀ b, ¬ IsAlloc C ops S j b := fun b hb => by
    obtain ⟨o, _, _, h3⟩ := hb
    rw [hmem] at h3
    have := congrArg List.length h3
    simp at this
  refine { lt := ?_, closed := closed_next I.closed hpre, ple := I.ple, effs := ?_, tmp := I.tmp_next X hN ho hd hS (Emb.le.refl _) r, dfr := (put_defers ..).trans I.dfr, tsz := (put_size ..).trans I.tsz, rep := I.rep, hB := I.hB, glob := I.glob, born := ?_, early := ?_, eapart := ?_, pend := ?_, keep := I.keep, frame := I.frame, origin := I.origin, unreal := I.unreal, fzle := I.fzle, ice := I.ice, os := I.os, tape := I.tape, output := I.output, size := I.size }
  · rintro i (h | h)
    · exact I.lt i h
    · omega
  · intro i o' h1 h2
    rw [← I.effs i o' h1 h2]
    refine ⟨fun h => ?_, .inl⟩
    rcases h with h | h
    · exact h
    · subst h
      rw [ho] at h1
      cases h1
      exact absurd h2 hc
  · intro k l h1 h2 h3
    rcases I.born k l h1 h2 h3 with h | ⟨i, b, g1, g2⟩
    · exact .inl h
    · exact .inr ⟨i, b, .inl g1, g2⟩
  · rintro i b (h1 | h1) h2 h3
    · exact I.early i b h1 h2 h3
    · subst h1; exact absurd h3 (nal b)
  · rintro i b i' b' l l' h0 (h1 | h1) h2 h3 (h4 | h4) h5 h6
    · exact I.eapart i b i' b' l l' h0 h1 h2 h3 h4 h5 h6
    · subst h4; exact absurd h6 (nal b')
    · subst h1; exact absurd h3 (nal b)
    · subst h1; exact absurd h3 (nal b)
  · intro i b h1 h2
    exact I.pend i b (fun h => h1 (.inl h)) h2
theorem Text.es_same (X : Text C call ops S E) {i j n : Nat} (hi : i ≤ ops.length) (hj : j ≤ ops.length) {b b' : Blk} (h1 : (S i).2[n]? = some b) (h2 : (S j).2[n]? = some b') : b.es = b'.es := by
  rcases Nat.le_total i j with h | h
  · obtain ⟨x, e1, e2, _⟩ := (X.grow_le h hj).old n b h1
    rw [h2] at e1; cases e1; exact e2.symm
  · obtain ⟨x, e1, e2, _⟩ := (X.grow_le h hi).old n b' h2
    rw [h1] at e1; cases e1; exact e2
theorem IsAlloc.at {i : Nat} {b : Blk} (h : IsAlloc C ops S i b) : (S (i + 1)).2[(S i).2.length]? = some b := by
  obtain ⟨o, _, _, e⟩ := h
  rw [e]; simp
theorem Inv.esok (X : Text C call ops S E) (I : Inv C ops S B ι0 a0 w0 D p ι a w) {j : Nat} (hj : j ≤ ops.length) : EsOK ι (esOf (S j).2) := by
  intro n l e hl he
  unfold esOf at he
  cases hb : (S j).2[n]? with
  | none => rw [hb] at he; cases he
  | some b =>
    rw [hb] at he
    cases he
    have hn := (List.getElem?_eq_some_iff.1 hb).1
    by_cases hp : n < (S p).2.length
    · have h1 : (S p).2[n]? = some (S p).2[n] := List.getElem?_eq_getElem hp
      rw [← I.rep.es n l _ hl h1]
      exact X.es_same I.ple hj h1 hb
    · have g0 := (X.grow_le (Nat.zero_le p) I.ple).len
      have g1 := (X.grow_le hj (Nat.le_refl _)).len
      rcases I.born n l (by omega) (by omega) hl with h | ⟨i, b', h1, h2, h3, h4⟩
      · exact absurd h hp
      · subst h4
        obtain ⟨l', e1, EO⟩ := I.early i b' h1 h2 h3
        rw [hl] at e1
        cases e1
        rw [← EO.es]
        exact X.es_same h3.lt hj h3.at hb
def lonely (ι : Emb) (k : Nat) (b : Blk) : Mem := (List.range k).map (fun n => ⟨[], match ι n with | some l => l.es | none => 0, false, false⟩) ++ [b]
theorem lonely_at (ι : Emb) (k : Nat) (b : Blk) : (lonely ι k b)[k]? = some b := by
  unfold lonely
  rw [List.getElem?_append_right (by simp)]
  simp
theorem lonely_rep {m0 : Mem} (R0 : Rep B ι m0 w) {k : Nat} {b : Blk} (hown : b.own = true) (h : ∀ l, ι k = some l → Match ι b l w ∧ B ≤ l.g ∧ b.es = l.es ∧ ι.fz l.g = none) : Rep B ι (lonely ι k b) w := by
  have dead : ∀ n x, (lonely ι k b)[n]? = some x → (n = k ∧ x = b) ∨ (x.live = false ∧ ∀ l, ι n = some l → x.es = l.es) := by
    intro n x hx
    unfold lonely at hx
    rcases getElem?_snoc hx with ⟨h1, h2⟩ | ⟨h1, h2⟩
    · right
      simp at h1
      simp [h1] at h2
      subst h2
      exact ⟨rfl, fun l hl => by simp [hl]⟩
    · left
      exact ⟨by simpa using h1, h2⟩
  refine ⟨fun n l x h1 h2 h3 => ?_, fun n n' l l' x x' h0 h1 h2 h3 h4 h5 h6 h7 => ?_, fun n l x h1 h2 h3 h4 => ?_, fun n l x h1 h2 => ?_, R0.frozen, fun n l x h1 h2 h3 h4 => ?_, fun n l x h1 h2 h3 h4 => ?_⟩
  · rcases dead n x h2 with ⟨rfl, rfl⟩ | ⟨g, _⟩
    · exact (h l h1).1
    · rw [g] at h3; cases h3
  · rcases dead n x h3 with ⟨rfl, rfl⟩ | ⟨g, _⟩
    · rcases dead n' x' h4 with ⟨rfl, rfl⟩ | ⟨g, _⟩
      · exact absurd rfl h0
      · rw [g] at h6; cases h6
    · rw [g] at h5; cases h5
  · rcases dead n x h2 with ⟨rfl, rfl⟩ | ⟨g, _⟩
    · exact (h l h1).2.1
    · rw [g] at h3; cases h3
  · rcases dead n x h2 with ⟨rfl, rfl⟩ | ⟨_, g⟩
    · exact (h l h1).2.2.1
    · exact g l h1
  · rcases dead n x h2 with ⟨rfl, rfl⟩ | ⟨g, _⟩
    · exact (h l h1).2.2.2
    · rw [g] at h3; cases h3
  · rcases dead n x h2 with ⟨rfl, rfl⟩ | ⟨g, _⟩
    · rw [hown] at h4; cases h4
    · rw [g] at h3; cases h3
theorem Inv.reads (hC : CfgOK C) (X : Text C call ops S E) (I : Inv C ops S B ι0 a0 w0 D p ι a w) {j : Nat} {o : Oper} (ho : ops[j]? = some o) (hj : ¬ D j) (hpre : ∀ i, ahead (masks ops []) i j = true → D i) (hcl : cls C o = .read) {nm : Option Nat} {v : Value}
    (hs : ∃ T' m', aStep C call ops (S j).1 (S j).2 o = some (T', m', nm)) (h : rv C (S j).2 (S j).1 o = some (nm, v)) : ∃ v', VR ι v v' ∧ (execOp a.eval o).run C.P w = .ok (.value v') w := by
  have hjl : j < ops.length := (List.getElem?_eq_some_iff.1 ho).1
  have hT := I.lookT X ho hj hpre
  have h' : rv C (S j).2 (Ab.lookT ops (S j).1 o) o = some (nm, v) := by rw [rv_congr lookT_ev]; exact h
  have fin : ∀ m, Rep B ι m w → (∀ k, nm = some k → look m k = look (S j).2 k) → ∃ v', VR ι v v' ∧ (execOp a.eval o).run C.P w = .ok (.value v') w := fun m R hm =>
    read_goes hC R hT I.glob (rv_local h' hm)
  cases hnm : nm with
  | none => exact fin _ I.rep (fun k e => by rw [hnm] at e; cases e)
  | some k =>
    obtain ⟨T', m', hs⟩ := hs
    rw [hnm] at hs
    cases hb : (S j).2[k]? with
    | none =>
      refine fin [] ⟨fun n l b _ h => by simp at h, fun n n' l l' b b' _ _ _ h => by simp at h, fun n l b _ h => by simp at h, fun n l b _ h => by simp at h, I.rep.frozen, fun n l b _ h => by simp at h, fun n l b _ h => by simp at h⟩ fun k' e => ?_
      rw [hnm] at e
      cases e
      unfold look
      rw [hb]; rfl
    | some b =>
      have hkj := (List.getElem?_eq_some_iff.1 hb).1
      by_cases hkp : k < (S p).2.length
      · refine fin _ I.rep fun k' e => ?_
        rw [hnm] at e
        cases e
        rcases Nat.le_total p j with hpj | hpj
        · refine (X.block_between ho hcl hs hpj (by omega) hkp ?_).symm
          intro e q h1 h2 h3 h4
          rw [if_pos h2]
          cases hh : ahead (masks ops []) e j with
          | false => rfl
          | true =>
            have := (I.effs e q h3 h4).1 (hpre e hh)
            omega
        · refine X.block_between ho hcl hs hpj I.ple hkj ?_
          intro e q h1 h2 h3 h4
          rw [if_neg (by omega)]
          cases hh : ahead (masks ops []) j e with
          | false => rfl
          | true => exact absurd (I.closed j e ((I.effs e q h3 h4).2 h2) hh) hj
      · have hlook : look (lonely ι k { b with own := true }) k = look (S j).2 k := by
          unfold look
          rw [lonely_at, hb]; rfl
        refine fin (lonely ι k { b with own := true }) (lonely_rep I.rep rfl fun l hl => ?_) fun k' e => by
          rw [hnm] at e
          cases e
          exact hlook
        have g0 := (X.grow_le (Nat.zero_le p) I.ple).len
        have g1 := (X.grow_le (show j ≤ ops.length by omega) (Nat.le_refl _)).len
        rcases I.born k l (by omega) (by omega) hl with h | ⟨i, b', h1, h2, h3, h4⟩
        · exact absurd h hkp
        · subst h4
          obtain ⟨l', e1, EO⟩ := I.early i b' h1 h2 h3
          rw [hl] at e1
          cases e1
          have hij : i < j := by
            rcases Nat.lt_or_ge i j with h | h
            · exact h
            · have := (X.grow_le h (Nat.le_of_lt h3.lt)).len
              omega
          have hat := h3.at
          have hes := X.es_same h3.lt (Nat.le_of_lt hjl) hat hb
          have : look (S j).2 (S i).2.length = look (S (i + 1)).2 (S i).2.length := by
            refine X.block_between ho hcl hs (by omega) (by omega) (List.getElem?_eq_some_iff.1 hat).1 ?_
            intro e q g1 g2 g3 g4
            rw [if_pos g2]
            cases hh : ahead (masks ops []) e j with
            | false => rfl
            | true =>
              have := (I.effs e q g3 g4).1 (hpre e hh)
              omega
          unfold look at this
          rw [hb, hat] at this
          simp only [Option.map_some, Option.some.injEq, Prod.mk.injEq] at this
          obtain ⟨ec, el⟩ := this
          refine ⟨⟨?_, ?_⟩, EO.base, by simp only; rw [← hes]; exact EO.es, EO.cold⟩
          · obtain ⟨c, e, z, m1, m2, m3, m4, m5⟩ := EO.mt.ex
            refine ⟨c, e, z, m1, m2, by simp only; rw [ec]; exact m3, fun i v hv => m4 i v (by simp only at hv; rw [ec] at hv; exact hv), fun _ => m5 EO.own⟩
          · simp only; rw [ec]; exact EO.mt.flat
end
end Go.Ab
namespace Go.Ab
section
variable {C : Cfg} {call : CallF} {ops : List Oper} {B : Nat}
variable {S : Nat → Tm × Mem} {E : List Ev}
variable {ι0 : Emb} {a0 : Act} {w0 : World} {D : Nat → Prop} {p : Nat} {ι : Emb} {a : Act} {w : World}
theorem Inv.makes (X : Text C call ops S E) (I : Inv C ops S B ι0 a0 w0 D p ι a w) {N : Nat} (hN : N ≤ a.tmps.size) {j : Nat} {o : Oper} (ho : ops[j]? = some o) (hd : o.dst.all (· < N) = true) (hj : ¬ D j) (hpre : ∀ i, ahead (masks ops []) i j = true → D i)
    {b : Blk} (hA : IsAlloc C ops S j b) {u : Value} (hS : (S (j + 1)).1 = putD (S j).1 o.dst u) {u' : Value} {w' : World} {c : Array Value} {e : TypeId} {fz : Nat × Nat}
    (h2 : w'.heap = w.heap.push (.cells c e fz)) (h3 : b.cells.length ≤ c.size) (h4 : ∀ (i : Nat) x, b.cells[i]? = some x → ∃ x', c[i]? = some x' ∧ VR ι x x') (h5 : ∀ i, i < c.size → ¬ (fz.1 ≤ i ∧ i < fz.2))
    (h6 : w'.os = w.os) (h7 : w'.tape = w.tape) (h8 : w'.output = w.output) (h9 : b.live = true) (h10 : b.own = true) (h11 : b.cells.all flat = true)
    (h12 : ∀ ι' : Emb, ι' (S j).2.length = some ⟨w.heap.size, 0, c.size, b.es⟩ → ι.le ι' → VR ι' u u') :
    ∃ ι', Inv C ops S B ι0 a0 w0 (fun i => D i ∨ i = j) p ι' (a.put o.dst u') w' := by
  have hjl : j < ops.length := hA.lt
  have hfree := (I.pend j b hj hA).1
  have gj := (X.grow_le (Nat.zero_le j) (by omega)).len
  have gj1 := (X.grow_le (show j + 1 ≤ ops.length by omega) (Nat.le_refl _)).len
  have hjj : (S j).2.length < (S (j + 1)).2.length := (List.getElem?_eq_some_iff.1 hA.at).1
  generalize hk : (S j).2.length = k at *
  have hle : ι.le (ι.upd k ⟨w.heap.size, 0, c.size, b.es⟩) := Emb.upd_le _ hfree
  have hno : ι.fz w.heap.size = none := by
    cases h : ι.fz w.heap.size with
    | none => rfl
    | some c' =>
      obtain ⟨e', z, hz⟩ := I.rep.frozen _ _ h
      have := (Array.getElem?_eq_some_iff.1 hz).1
      omega
  have hold : ∀ g, g < w.heap.size → w'.heap[g]? = w.heap[g]? := fun g hg => by
    rw [h2, Array.getElem?_push, if_neg (by omega)]
  have hM : Match (ι.upd k ⟨w.heap.size, 0, c.size, b.es⟩) b ⟨w.heap.size, 0, c.size, b.es⟩ w' := by
    refine ⟨⟨c, e, fz, by rw [h2]; simp, Nat.le_refl _, by simpa using h3, ?_, fun _ => h5⟩, h11⟩
    intro i v hv
    obtain ⟨v', q1, q2⟩ := h4 i v hv
    exact ⟨v', by simpa using q1, q2.mono hle⟩
  have upd : ∀ {n l}, ι.upd k ⟨w.heap.size, 0, c.size, b.es⟩ n = some l → (n = k ∧ l = ⟨w.heap.size, 0, c.size, b.es⟩) ∨ (n ≠ k ∧ ι n = some l) := by
    intro n l h
    by_cases hn : n = k
    · subst hn
      rw [Emb.upd_same] at h
      cases h
      exact .inl ⟨rfl, rfl⟩
    · rw [Emb.upd_ne _ _ hn] at h
      exact .inr ⟨hn, h⟩
  have atk : ∀ {x}, (S p).2[k]? = some x → x = b := by
    intro x hx
    have hkp := (List.getElem?_eq_some_iff.1 hx).1
    have hjp : j < p := by
      rcases Nat.lt_or_ge j p with h | h
      · exact h
      · have := (X.grow_le h (by omega)).len
        omega
    have := (I.pend j b hj hA).2 hjp
    rw [hk, hx] at this
    cases this
    rfl
  refine ⟨ι.upd k ⟨w.heap.size, 0, c.size, b.es⟩, ?_⟩
  refine { lt := ?_, closed := closed_next I.closed hpre, ple := I.ple, effs := ?_, tmp := I.tmp_next X hN ho hd hS hle (h12 _ (Emb.upd_same ..) hle), dfr := (put_defers ..).trans I.dfr, tsz := (put_size ..).trans I.tsz, rep := ?_, hB := by rw [h2]; have := I.hB; simp; omega, glob := I.glob.mono hle, born := ?_, early := ?_, eapart := ?_, pend := ?_, keep := ?_, frame := ?_, origin := ?_, unreal := I.unreal, fzle := I.fzle, ice := I.ice, os := h6.trans I.os, tape := h7.trans I.tape, output := h8.trans I.output, size := by rw [h2]; have := I.size; simp; omega }
  · rintro i (h | h)
    · exact I.lt i h
    · omega
  · intro i o' q1 q2
    rw [← I.effs i o' q1 q2]
    refine ⟨fun h => ?_, .inl⟩
    rcases h with h | h
    · exact h
    · subst h
      obtain ⟨o2, z1, z2, _⟩ := hA
      rw [z1] at q1
      cases q1
      rw [z2] at q2
      cases q2
  · refine ⟨fun n l x q1 q2 q3 => ?_, fun n n' l l' x x' q0 q1 q2 q3 q4 q5 q6 q7 => ?_, fun n l x q1 q2 q3 q4 => ?_, fun n l x q1 q2 => ?_, fun g c' h => ?_, fun n l x q1 q2 q3 q4 => ?_, fun n l x q1 q2 q3 q4 => ?_⟩
    · rcases upd q1 with ⟨rfl, rfl⟩ | ⟨_, q⟩
      · rw [atk q2]; exact hM
      · have M := I.rep.cells n l x q q2 q3
        exact (M.mono hle).heap (hold _ M.lt)
    · rcases upd q1 with ⟨rfl, rfl⟩ | ⟨_, r1⟩ <;> rcases upd q2 with ⟨rfl, rfl⟩ | ⟨_, r2⟩
      · exact absurd rfl q0
      · have := (I.rep.cells n' l' x' r2 q4 q6).lt
        simp only; omega
      · have := (I.rep.cells n l x r1 q3 q5).lt
        simp only; omega
      · exact I.rep.apart n n' l l' x x' q0 r1 r2 q3 q4 q5 q6 q7
    · rcases upd q1 with ⟨rfl, rfl⟩ | ⟨_, q⟩
      · exact I.hB
      · exact I.rep.base n l x q q2 q3 q4
    · rcases upd q1 with ⟨rfl, rfl⟩ | ⟨_, q⟩
      · rw [atk q2]
      · exact I.rep.es n l x q q2
    · obtain ⟨e', z, hz⟩ := I.rep.frozen g c' h
      exact ⟨e', z, by rw [hold g (Array.getElem?_eq_some_iff.1 hz).1]; exact hz⟩
    · rcases upd q1 with ⟨rfl, rfl⟩ | ⟨_, q⟩
      · exact hno
      · exact I.rep.cold n l x q q2 q3 q4
    · rcases upd q1 with ⟨rfl, rfl⟩ | ⟨_, q⟩
      · rw [atk q2, h10] at q4; cases q4
      · exact I.rep.kept n l x q q2 q3 q4
  · intro n l q1 q2 q3
    rcases upd q3 with ⟨rfl, rfl⟩ | ⟨_, q⟩
    · rcases Nat.lt_or_ge j p with h | h
      · left
        have := (X.grow_le (show j + 1 ≤ p by omega) I.ple).len
        omega
      · exact .inr ⟨j, b, .inr rfl, h, hA, hk.symm⟩
    · rcases I.born n l q1 q2 q with h | ⟨i, b', g1, g2⟩
      · exact .inl h
      · exact .inr ⟨i, b', .inl g1, g2⟩
  · intro i b' q1 q2 q3
    by_cases hij : i = j
    · subst hij
      have : b' = b := by
        obtain ⟨_, _, _, z⟩ := q3
        obtain ⟨_, _, _, z'⟩ := hA
        rw [z] at z'
        have := List.append_cancel_left z'
        simpa using this
      subst this
      refine ⟨⟨w.heap.size, 0, c.size, b'.es⟩, by rw [hk, Emb.upd_same], ⟨hM, I.hB, rfl, h10, h9, ?_, I.size, hno⟩⟩
      intro n l x r1 r2 r3
      rcases upd r1 with ⟨rfl, rfl⟩ | ⟨_, r⟩
      · have := (X.grow_le q2 (by omega)).len
        have := (List.getElem?_eq_some_iff.1 r2).1
        omega
      · have := (I.rep.cells n l x r r2 r3).lt
        simp only; omega
    · have q1' : D i := q1.resolve_right hij
      obtain ⟨l, e1, EO⟩ := I.early i b' q1' q2 q3
      have hne : (S i).2.length ≠ k := fun h => hij (X.alloc_inj q3 hA (h.trans hk.symm))
      refine ⟨l, by rw [Emb.upd_ne _ _ hne]; exact e1, ⟨(EO.mt.mono hle).heap (hold _ EO.mt.lt), EO.base, EO.es, EO.own, EO.live, ?_, EO.fresh, EO.cold⟩⟩
      intro n l' x r1 r2 r3
      rcases upd r1 with ⟨rfl, rfl⟩ | ⟨_, r⟩
      · have := EO.mt.lt
        simp only; omega
      · exact EO.apart n l' x r r2 r3
  · intro i b1 i' b2 l l' q0 q1 q2 q3 q4 q5 q6 q7 q8
    rcases upd q7 with ⟨r1, r2⟩ | ⟨r1, r2⟩ <;> rcases upd q8 with ⟨t1, t2⟩ | ⟨t1, t2⟩
    · exact absurd (X.alloc_inj q3 q6 (r1.trans t1.symm)) q0
    · have hij : i' ≠ j := fun h => by subst h; exact t1 hk
      obtain ⟨l2, e1, EO⟩ := I.early i' b2 (q4.resolve_right hij) q5 q6
      rw [t2] at e1
      cases e1
      have := EO.mt.lt
      rw [r2]
      simp only; omega
    · have hij : i ≠ j := fun h => by subst h; exact r1 hk
      obtain ⟨l2, e1, EO⟩ := I.early i b1 (q1.resolve_right hij) q2 q3
      rw [r2] at e1
      cases e1
      have := EO.mt.lt
      rw [t2]
      simp only; omega
    · have hij : i ≠ j := fun h => by subst h; exact r1 hk
      have hij' : i' ≠ j := fun h => by subst h; exact t1 hk
      exact I.eapart i b1 i' b2 l l' q0 (q1.resolve_right hij) q2 q3 (q4.resolve_right hij') q5 q6 r2 t2
  · intro i b' q1 q2
    have q1' : ¬ D i := fun h => q1 (.inl h)
    have hij : i ≠ j := fun h => q1 (.inr h)
    have hne : (S i).2.length ≠ k := fun h => hij (X.alloc_inj q2 hA (h.trans hk.symm))
    rw [Emb.upd_ne _ _ hne]
    exact I.pend i b' q1' q2
  · intro n hn
    rw [Emb.upd_ne]
    · exact I.keep n hn
    · rintro rfl
      omega
  · intro g hg hn
    rw [hold g (Nat.lt_of_lt_of_le hg I.size)]
    exact I.frame g hg hn
  · intro n l x q1 q2 q3 q4
    rcases upd q2 with ⟨rfl, rfl⟩ | ⟨_, q⟩
    · exact .inl I.size
    · exact I.origin n l x q1 q q3 q4
theorem Inv.effect (X : Text C call ops S E) (I : Inv C ops S B ι0 a0 w0 D p ι a w) {N : Nat} (hN : N ≤ a.tmps.size) {o : Oper} (ho : ops[p]? = some o) (hd : o.dst.all (· < N) = true) (hpre : ∀ i, ahead (masks ops []) i p = true → D i)
    (hc : cls C o = .eff) {u : Value} (hS : (S (p + 1)).1 = putD (S p).1 o.dst u) {u' : Value} {ι' : Emb} {w' : World} (A : After B ι (S p).2 w ι' (S (p + 1)).2 w') (hle : ι.le ι') (r : VR ι' u u') :
    Inv C ops S B ι0 a0 w0 (fun i => D i ∨ i = p) (p + 1) ι' (a.put o.dst u') w' := by
  have hpl : p < ops.length := (List.getElem?_eq_some_iff.1 ho).1
  have g0 := (X.grow_le (Nat.zero_le p) (by omega)).len
  have g1 := A.len
  have g2 := (X.grow_le (show p + 1 ≤ ops.length by omega) (Nat.le_refl _)).len
  have nal : ∀ {i b}, IsAlloc C ops S i b → i ≠ p := fun {i b} hb h => by
    subst h
    obtain ⟨o2, z1, z2, _⟩ := hb
    rw [ho] at z1
    cases z1
    rw [hc] at z2
    cases z2
  have after : ∀ {i b}, IsAlloc C ops S i b → p ≤ i → (S (p + 1)).2.length ≤ (S i).2.length := fun {i b} hb h => by
    have := nal hb
    exact (X.grow_le (show p + 1 ≤ i by omega) (Nat.le_of_lt hb.lt)).len
  have before : ∀ {i b}, IsAlloc C ops S i b → i < p → (S i).2.length < (S p).2.length := fun {i b} hb h => X.alloc_lt hb h (by omega)
  have same : ∀ {i b}, IsAlloc C ops S i b → ι' (S i).2.length = ι (S i).2.length := fun {i b} hb => by
    apply A.keep
    rcases Nat.lt_or_ge i p with h | h
    · exact .inl (before hb h)
    · exact .inr (after hb h)
  have back : ∀ {k l b}, ι k = some l → (S p).2[k]? = some b → b.live = true → b.own = true →
      w0.heap.size ≤ l.g ∨ ∃ k0 l0 b0, ι0 k0 = some l0 ∧ (S 0).2[k0]? = some b0 ∧ b0.live = true ∧ b0.own = true ∧ l0.g = l.g := by
    intro k l b q1 q2 q3 q4
    rcases Nat.lt_or_ge k (S 0).2.length with h | h
    · rw [I.keep k (.inl h)] at q1
      have hk0 : (S 0).2[k]? = some (S 0).2[k] := List.getElem?_eq_getElem h
      obtain ⟨b', e1, e2, e3, e4⟩ := (X.grow_le (Nat.zero_le p) (by omega)).old k _ hk0
      rw [q2] at e1
      cases e1
      exact .inr ⟨k, l, _, q1, hk0, e4 q3, e3 q4, rfl⟩
    · exact I.origin k l b h q1 q2 q3
  refine { lt := ?_, closed := closed_next I.closed hpre, ple := (by omega), effs := ?_, tmp := I.tmp_next X hN ho hd hS hle r, dfr := (put_defers ..).trans I.dfr, tsz := (put_size ..).trans I.tsz, rep := A.rep, hB := Nat.le_trans I.hB A.size, glob := I.glob.mono hle, born := ?_, early := ?_, eapart := ?_, pend := ?_, keep := ?_, frame := ?_, origin := ?_, unreal := ?_, fzle := fun g c h => A.fz g c (I.fzle g c h), ice := ?_, os := A.os.trans I.os, tape := A.tape.trans I.tape, output := A.output.trans I.output, size := Nat.le_trans I.size A.size }
  · rintro i (h | h)
    · exact I.lt i h
    · omega
  · intro i o' q1 q2
    have := I.effs i o' q1 q2
    constructor
    · rintro (h | h)
      · have := this.1 h; omega
      · omega
    · intro h
      by_cases e : i = p
      · exact .inr e
      · exact .inl (this.2 (by omega))
  · intro k l q1 q2 q3
    rcases Nat.lt_or_ge k (S (p + 1)).2.length with h | h
    · exact .inl h
    · rw [A.keep k (.inr h)] at q3
      rcases I.born k l q1 q2 q3 with h' | ⟨i, b, r1, r2, r3, r4⟩
      · omega
      · have := nal r3
        exact .inr ⟨i, b, .inl r1, by omega, r3, r4⟩
  · intro i b q1 q2 q3
    have q1' : D i := q1.resolve_right (nal q3)
    obtain ⟨l, e1, EO⟩ := I.early i b q1' (by omega) q3
    refine ⟨l, by rw [same q3]; exact e1, ⟨(EO.mt.mono hle).heap (A.frame _ EO.mt.lt fun n l' b' z1 z2 z3 _ => EO.apart n l' b' z1 z2 z3), EO.base, EO.es, EO.own, EO.live, ?_, EO.fresh, ?_⟩⟩
    case refine_2 =>
      rcases A.ice _ EO.cold with h | h | ⟨n, l', b', z1, z2, z3, z4, z5⟩
      · exact h
      · have := EO.mt.lt; omega
      · exact absurd z5 (EO.apart n l' b' z1 z2 z3)
    intro n l' x z1 z2 z3
    rcases Nat.lt_or_ge n (S p).2.length with h | h
    · obtain ⟨b0, y1, _, _, y2⟩ := A.alive n x h z2
      rw [A.keep n (.inl h)] at z1
      exact EO.apart n l' b0 z1 y1 (y2 z3)
    · rcases A.origin n l' x h z1 z2 z3 with h' | ⟨k, l0, b0, y1, y2, y3, y4, y5⟩
      · have := EO.mt.lt; omega
      · rw [← y5]; exact EO.apart k l0 b0 y1 y2 y3
  · intro i b1 i' b2 l l' q0 q1 q2 q3 q4 q5 q6 q7 q8
    rw [same q3] at q7
    rw [same q6] at q8
    exact I.eapart i b1 i' b2 l l' q0 (q1.resolve_right (nal q3)) (by omega) q3 (q4.resolve_right (nal q6)) (by omega) q6 q7 q8
  · intro i b q1 q2
    have q1' : ¬ D i := fun h => q1 (.inl h)
    have hn := I.pend i b q1' q2
    rw [same q2]
    refine ⟨hn.1, fun h => ?_⟩
    have hne := nal q2
    have hip : i < p := by omega
    rw [A.unreal _ (before q2 hip) hn.1]
    exact hn.2 hip
  · intro k hk
    rw [A.keep k (by omega)]
    exact I.keep k hk
  · intro g hg hn
    rw [A.frame g (Nat.lt_of_lt_of_le hg I.size)]
    · exact I.frame g hg hn
    · intro k l b q1 q2 q3 q4
      rcases back q1 q2 q3 q4 with h | ⟨k0, l0, b0, z1, z2, z3, z4, z5⟩
      · omega
      · rw [← z5]; exact hn k0 l0 b0 z1 z2 z3 z4
  · intro k l b q1 q2 q3 q4
    rcases Nat.lt_or_ge k (S p).2.length with h | h
    · obtain ⟨b0, y1, _, _, y2⟩ := A.alive k b h q3
      rw [A.keep k (.inl h)] at q2
      exact I.origin k l b0 q1 q2 y1 (y2 q4)
    · rcases A.origin k l b h q2 q3 q4 with h' | ⟨k1, l1, b1, y1, y2, y3, y4, y5⟩
      · exact .inl (Nat.le_trans I.size h')
      · rw [← y5]; exact back y1 y2 y3 y4
  · intro k q1 q2
    rw [A.unreal k (by omega) (by rw [I.keep k (.inl q1)]; exact q2)]
    exact I.unreal k q1 q2
  · intro g hg
    rcases I.ice g hg with h | h
    · rcases A.ice g h with h' | h' | ⟨n, l, b, z1, z2, z3, z4, z5⟩
      · exact .inl h'
      · exact .inr (.inl (Nat.le_trans I.size h'))
      · rcases back z1 z2 z3 z4 with h' | ⟨k0, l0, b0, y1, y2, y3, y4, y5⟩
        · exact .inr (.inl (by omega))
        · exact .inr (.inr ⟨k0, l0, b0, y1, y2, y3, y4, y5.trans z5⟩)
    · exact .inr h
end
end Go.Ab
namespace Go.Ab
section
variable {C : Cfg} {call : CallF} {ops : List Oper} {B : Nat}
variable {S : Nat → Tm × Mem} {E : List Ev}
variable {ι0 : Emb} {a0 : Act} {w0 : World} {D : Nat → Prop} {p : Nat} {ι : Emb} {a : Act} {w : World}
theorem Inv.step (hC : CfgOK C) (hcall : CallOK C call) (X : Text C call ops S E) (I : Inv C ops S B ι0 a0 w0 D p ι a w) {N : Nat} (hN : N ≤ a.tmps.size) {j : Nat} {o : Oper} (ho : ops[j]? = some o) (hd : o.dst.all (· < N) = true)
    (hj : ¬ D j) (hpre : ∀ i, ahead (masks ops []) i j = true → D i) {K : Act → World → Prop} {Q : Exit → Act → World → Prop}
    (hK : ∀ p' ι' a' w', Inv C ops S B ι0 a0 w0 (fun i => D i ∨ i = j) p' ι' a' w' → K a' w') : wpOp C.P ops.toArray Q j K a w := by
  have hi : ops.toArray[j]? = some o := by simpa using ho
  have hjl : j < ops.length := (List.getElem?_eq_some_iff.1 ho).1
  obtain ⟨nm, hs, _⟩ := X.step j o ho
  have hT := I.lookT X ho hj hpre
  unfold wpOp
  simp only [hi]
  have hW := fun b (h : wantedA ops (S j).1 o = some b) => wanted_sound (a := a) (ι := ι) h (fun t v hx hv => by
    obtain ⟨k, wt, g, g1, g2, g3⟩ := hx
    refine I.looks X ho hj hpre ?_ hv
    unfold Oper.looksAt
    rw [List.mem_append]
    right
    simp [g1, g2, g3])
  have front : cls C o = .eff → Inv C ops S B ι0 a0 w0 D j ι a w := by
    intro hc
    have hpj : p ≤ j := by
      rcases Nat.lt_or_ge j p with h | h
      · exact absurd ((I.effs j o ho hc).2 h) hj
      · exact h
    refine I.adv_to X hpj (by omega) fun e q h1 h2 h3 h4 => ?_
    have := (I.effs e q h3 h4).1 (hpre e (effs_ordered X.draw h3 ho h2 h4 hc))
    omega
  have hs' := hs
  unfold aStep at hs
  split at hs
  · cases hs
  · rename_i hw
    simp only [Option.some.injEq, Prod.mk.injEq] at hs
    obtain ⟨s1, s2, _⟩ := hs
    rw [hW _ hw]
    simp only [Bool.false_eq_true, if_false]
    by_cases hc : cls C o = .eff
    · have I' := front hc
      refine hK _ _ _ _ (I'.effect X hN ho hd hpre hc s1.symm (u' := undef) (ι' := ι) (w' := w) ?_ (Emb.le.refl _) unit_VR)
      rw [← s2]
      exact After.refl I'.rep
    · exact hK _ _ _ _ (I.idle X hN ho hd hpre hc s2.symm s1.symm unit_VR)
  · rename_i hw
    split at hs
    · rename_i v m' n' hop
      simp only [Option.some.injEq, Prod.mk.injEq] at hs
      obtain ⟨s1, s2, s3⟩ := hs
      subst s3
      rw [hW _ hw]
      simp only [if_true]
      left
      have hop' := hop
      unfold aOp at hop
      split at hop
      · rename_i hc
        split at hop
        · rename_i u hv
          simp only [Option.some.injEq, Prod.mk.injEq] at hop
          obtain ⟨e1, e2, e3⟩ := hop
          subst e1
          rw [← pv_congr (lookT_ev (ops := ops))] at hv
          obtain ⟨v', r, hr⟩ := pv_sound hC hT I.glob (I.esok X (by omega)) hv
          unfold Oper.wp
          rw [hr w, Oper.upon_value]
          exact hK _ _ _ _ (I.idle X hN ho hd hpre (by rw [hc]; decide) (by rw [← s2, e2]) s1.symm r)
        · cases hop
      · rename_i hc
        split at hop
        · rename_i u b hv
          simp only [Option.some.injEq, Prod.mk.injEq] at hop
          obtain ⟨e1, e2, e3⟩ := hop
          subst e1
          rw [← av_congr (lookT_ev (ops := ops))] at hv
          obtain ⟨v', w', c, e, fz, h1, h2, h3, h4, h5, h6, h7, h8, h9, h10, h11, h12⟩ := (av_sound hC hT I.glob hv w).ex
          have hA : IsAlloc C ops S j b := ⟨o, ho, hc, by rw [← s2, e2]⟩
          obtain ⟨ι', I'⟩ := I.makes X hN ho hd hj hpre hA s1.symm h2 h3 h4 h5 h6 h7 h8 h9 h10 h11 (u' := v') (fun ι' h _ => h12 ι' h)
          unfold Oper.wp
          rw [h1, Oper.upon_value]
          exact hK _ _ _ _ I'
        · cases hop
      · rename_i hc
        split at hop
        · rename_i n u hv
          simp only [Option.some.injEq, Prod.mk.injEq] at hop
          obtain ⟨e1, e2, e3⟩ := hop
          subst e1
          subst e3
          obtain ⟨v', r, hr⟩ := I.reads hC X ho hj hpre hc ⟨_, _, hs'⟩ hv
          unfold Oper.wp
          rw [hr, Oper.upon_value]
          exact hK _ _ _ _ (I.idle X hN ho hd hpre (by rw [hc]; decide) (by rw [← s2, e2]) s1.symm r)
        · cases hop
      · rename_i hc
        split at hop
        · rename_i u m1 hv
          simp only [Option.some.injEq, Prod.mk.injEq] at hop
          obtain ⟨e1, e2, e3⟩ := hop
          subst e1
          subst e2
          have I' := front hc
          rw [← wv_congr (lookT_ev (ops := ops))] at hv
          rw [s2] at hv
          have g0 := (X.grow_le (Nat.zero_le j) (by omega)).len
          have g2 := (X.grow_le (show j + 1 ≤ ops.length by omega) (Nat.le_refl _)).len
          have hF : Free ι (S j).2.length (S (j + 1)).2.length := by
            intro k h1 h2
            cases hk : ι k with
            | none => rfl
            | some l =>
              rcases I'.born k l (by omega) (by omega) hk with h | ⟨i, b, q1, q2, q3, q4⟩
              · omega
              · have : i ≠ j := fun h => by subst h; exact hj q1
                have := (X.grow_le (show j + 1 ≤ i by omega) (Nat.le_of_lt q3.lt)).len
                omega
          refine eff_goes hC hcall I'.rep I'.hB hT I'.glob hv hF K Q fun v' ι' w' A r => ?_
          exact hK _ _ _ _ (I'.effect X hN ho hd hpre hc s1.symm A (A.le hF) r)
        · cases hop
    · cases hs
def countOff (listed : Array Bool) : Nat := (listed.toList.filter (!·)).length
theorem countOff_set {listed : Array Bool} {i : Nat} (h : listed[i]? = some false) : countOff (listed.setIfInBounds i true) + 1 = countOff listed := by
  unfold countOff
  have hi : i < listed.size := (Array.getElem?_eq_some_iff.1 h).1
  have hl : listed.toList[i]? = some false := by simpa using h
  have : (listed.setIfInBounds i true).toList = listed.toList.set i true := by simp
  rw [this]
  generalize listed.toList = l at hl
  clear this hi h
  induction l generalizing i with
  | nil => simp at hl
  | cons x l ih =>
    cases i with
    | zero =>
      simp at hl
      subst hl
      simp
    | succ i =>
      simp only [List.getElem?_cons_succ] at hl
      have := ih hl
      cases x <;> simp_all
theorem countOff_zero {listed : Array Bool} (h : countOff listed = 0) {i : Nat} (hi : i < listed.size) : listed[i]? = some true := by
  unfold countOff at h
  rw [List.length_eq_zero_iff, List.filter_eq_nil_iff] at h
  have h1 : listed[i]? = some listed[i] := Array.getElem?_eq_getElem hi
  have := h listed[i] (by simp)
  rw [h1]
  simpa using this
theorem countOff_pos {listed : Array Bool} (h : countOff listed ≠ 0) : ∃ i : Nat, listed[i]? = some false ∧ ∀ k : Nat, k < i → listed[k]? = some true := by
  have : ∃ i : Nat, listed[i]? = some false := by
    apply Classical.byContradiction
    intro hn
    apply h
    unfold countOff
    rw [List.length_eq_zero_iff, List.filter_eq_nil_iff]
    intro x hx
    obtain ⟨i, hi, rfl⟩ := List.getElem_of_mem hx
    have h1 : listed[i]? = some listed[i] := by simp at hi; exact Array.getElem?_eq_getElem hi
    intro e
    apply hn
    exact ⟨i, by rw [h1]; simp at e; simp [e]⟩
  obtain ⟨i, hi⟩ := this
  induction i using Nat.strongRecOn with
  | _ i ih =>
    by_cases hall : ∀ k : Nat, k < i → listed[k]? = some true
    · exact ⟨i, hi, hall⟩
    · have : ∃ k : Nat, k < i ∧ listed[k]? ≠ some true := by
        apply Classical.byContradiction
        intro hn
        apply hall
        intro k hk
        apply Classical.byContradiction
        intro h'
        exact hn ⟨k, hk, h'⟩
      obtain ⟨k, hk, h'⟩ := this
      have hks : k < listed.size := by
        have := (Array.getElem?_eq_some_iff.1 hi).1
        omega
      refine ih k hk ?_
      rw [Array.getElem?_eq_getElem hks] at h' ⊢
      cases hv : listed[k] <;> simp_all
theorem any_goes (hC : CfgOK C) (hcall : CallOK C call) (X : Text C call ops S E) {N : Nat} (hN : N ≤ a0.tmps.size) (hd : ops.all (fun o => o.dst.all (· < N)) = true) {Q : Exit → Act → World → Prop}
    (hQ : ∀ ι a w, Inv C ops S B ι0 a0 w0 (fun i => i < ops.length) ops.length ι a w → Q .normal a w) :
    ∀ (fuel : Nat) (listed : Array Bool) (p : Nat) (ι : Emb) (a : Act) (w : World), listed.size = ops.length → countOff listed = fuel → Inv C ops S B ι0 a0 w0 (fun i => listed[i]? = some true) p ι a w →
      wpAny C.P .any ops.toArray Q fuel listed a w := by
  intro fuel
  induction fuel with
  | zero =>
    intro listed p ι a w hsz hct I
    have hall : ∀ i, i < ops.length → listed[i]? = some true := fun i hi => countOff_zero hct (by omega)
    refine ⟨?_, ?_⟩
    · rw [List.eq_nil_iff_forall_not_mem]
      intro i hi
      rw [mem_ready] at hi
      obtain ⟨h0, o, ho, _⟩ := hi
      have hil : i < ops.length := by
        have := (Array.getElem?_eq_some_iff.1 ho).1
        simpa using this
      have := hall i hil
      simp [this] at h0
    · have I' := I.adv_to X I.ple (Nat.le_refl _) fun e q h1 h2 h3 h4 => by
        have := (I.effs e q h3 h4).1 (hall e h2)
        omega
      have hD : (fun i => listed[i]? = some true) = fun i => i < ops.length := by
        funext i
        exact propext ⟨fun h => by have := (Array.getElem?_eq_some_iff.1 h).1; omega, hall i⟩
      rw [hD] at I'
      exact hQ _ _ _ I'
  | succ fuel ih =>
    intro listed p ι a w hsz hct I
    refine ⟨fun hr => ?_, fun j hj => ?_⟩
    · exfalso
      obtain ⟨i, h1, h2⟩ := countOff_pos (listed := listed) (by omega)
      have hil : i < ops.length := by
        have := (Array.getElem?_eq_some_iff.1 h1).1
        omega
      have : i ∈ Region.ready .any ops.toArray listed := by
        rw [mem_ready]
        refine ⟨by simp [h1], ops[i], by simp [hil], fun e he hb => ?_⟩
        have := edges_lt X.draw (List.getElem?_eq_getElem hil) (by simpa using he) hb
        simp [h2 _ this]
      rw [hr] at this
      cases this
    · rw [mem_ready] at hj
      obtain ⟨h0, o, ho, hall⟩ := hj
      have ho' : ops[j]? = some o := by simpa using ho
      have hjl : j < ops.length := (List.getElem?_eq_some_iff.1 ho').1
      have hjf : listed[j]? = some false := by
        have h1 : listed[j]? = some listed[j] := Array.getElem?_eq_getElem (by omega)
        simp [Array.getD_eq_getD_getElem?, h1] at h0
        rw [h1, h0]
      have hdo : o.dst.all (· < N) = true := by
        rw [List.all_eq_true] at hd
        exact hd o (List.mem_of_getElem? ho')
      have on : ∀ k, listed.getD k false = true → listed[k]? = some true := by
        intro k hk
        rw [Array.getD_eq_getD_getElem?] at hk
        cases hv : listed[k]? with
        | none => simp [hv] at hk
        | some b => simp [hv] at hk; rw [hk]
      refine I.step hC hcall X (by rw [I.tsz]; exact hN) ho' hdo (by rw [hjf]; simp) ?_ ?_
      · intro i hi
        obtain ⟨o2, e, g1, g2, g3, g4⟩ := ahead_sound hjl hi
        rw [ho'] at g1
        cases g1
        have hon := on _ (hall e (by simpa using g2) g3)
        rcases g4 with g4 | g4
        · rw [← g4]; exact hon
        · exact I.closed i e.on hon g4
      · intro p' ι' a' w' I'
        refine ih _ p' ι' a' w' (by simpa using hsz) ?_ ?_
        · have := countOff_set hjf
          omega
        · have hD : (fun i => listed[i]? = some true ∨ i = j) = fun i => (listed.setIfInBounds j true)[i]? = some true := by
            funext i
            rw [Array.getElem?_setIfInBounds]
            by_cases e : j = i
            · subst e
              simp
              omega
            · have : ¬ i = j := fun h => e h.symm
              simp [e, this]
          rw [hD] at I'
          exact I'
theorem region_goes (hC : CfgOK C) (hcall : CallOK C call) {N : Nat} {draw : Bool} {T T' : Tm} {m m' : Mem} (h : aRegion C call N ops draw T m = some (T', m')) (R : Rep B ι m w) (hB : B ≤ w.heap.size) (hT : TR ι T a.tmps) (hG : GlobOK C ι)
    (hF : Free ι m.length m'.length) (hN : N ≤ a.tmps.size) (id : Nat) (Q : Exit → Act → World → Prop) (hQ : ∀ a' w', Behind B ι m w a T' m' a' w' → Q .normal a' w') : (Code.region id ops.toArray draw).wp C.P Q a w := by
  unfold aRegion at h
  split at h
  · rename_i hd
    split at h
    · cases h
    · rename_i E T1 m1 ha
      cases draw with
      | false =>
        simp only [Bool.false_eq_true, if_false] at h
        cases h
        refine wp_region ?_
        have := ops_go hC hcall hd ops [] T m ι a w E T' m' rfl ha R hB hT hG hF hN Q hQ
        simpa [List.range_eq_range'] using this
      | true =>
        simp only [if_true] at h
        split at h
        · rename_i hs
          cases h
          refine wp_region_any hC.mixed ?_
          obtain ⟨S, s0, s1, s2⟩ := text_of ops T m E T' m' ha
          have X : Text C call ops S E := ⟨s2, call_grow hcall, hs.1, hs.2⟩
          have e1 : (S 0).2 = m := by rw [s0]
          have e1' : (S 0).1 = T := by rw [s0]
          have e2 : (S ops.length).2 = m' := by rw [s1]
          have e2' : (S ops.length).1 = T' := by rw [s1]
          have hg := X.grow_le (Nat.zero_le _) (Nat.le_refl ops.length)
          refine any_goes (B := B) (ι0 := ι) (a0 := a) (w0 := { w with drawn := w.drawn + 1 }) hC hcall X hN hd ?_ _ _ 0 ι a _ (by simp) (by simp [countOff]) ?_
          · intro ι' a' w' I
            refine hQ a' w' ⟨ι', ?_, ?_, I.dfr, I.tsz⟩
            · have hr := I.rep
              rw [e2] at hr
              refine { len := by rw [← e1, ← e2]; exact hg.len, keep := fun n hn => I.keep n (by rw [e1, e2]; exact hn), rep := hr, frame := fun g h1 h2 => I.frame g h1 (by rw [e1]; exact h2), origin := fun n l b h1 h2 h3 h4 => ?_, alive := fun k b' h1 h2 => ?_, fz := I.fzle, ice := fun g hg => ?_, unreal := fun k h1 h2 => ?_, os := I.os, tape := I.tape, output := I.output, size := I.size }
              · have := I.origin n l b (by rw [e1]; exact h1) h2 (by rw [e2]; exact h3) h4
                rw [e1] at this
                exact this
              · have hk : m[k]? = some m[k] := List.getElem?_eq_getElem _
                obtain ⟨b2, q1, q2, q3, q4⟩ := hg.old k m[k] (by rw [e1]; exact hk)
                rw [e2, h2] at q1
                cases q1
                exact ⟨_, hk, q2, q3, q4⟩
              · have := I.ice g hg
                rw [e1] at this
                exact this
              · have := I.unreal k (by rw [e1]; exact h1) h2
                rw [e1, e2] at this
                exact this
            · intro t v hv
              apply I.tmp
              rw [← e2'] at hv
              by_cases hx : ∃ i o', i < ops.length ∧ ops[i]? = some o' ∧ o'.dst = some t
              · obtain ⟨i, o', q1, q2, q3⟩ := hx
                left
                refine ⟨i, o', q1, q2, q3, ?_⟩
                rw [← X.lookup_between (show i + 1 ≤ ops.length by omega) (Nat.le_refl _)]
                · exact hv
                · intro k o2 g1 g2 g3 g4
                  have := X.writer q2 g3 q3 g4
                  omega
              · right
                refine ⟨fun i o' q1 q2 q3 => hx ⟨i, o', q1, q2, q3⟩, ?_⟩
                rw [← X.lookup_between (Nat.zero_le _) (Nat.le_refl _)]
                · exact hv
                · intro k o2 g1 g2 g3 g4
                  exact hx ⟨k, o2, g2, g3, g4⟩
          · have hR0 : Rep B ι (S 0).2 { w with drawn := w.drawn + 1 } := by rw [e1]; exact (After.same (w' := { w with drawn := w.drawn + 1 }) R rfl rfl rfl rfl).rep
            refine { lt := ?_, closed := ?_, ple := Nat.zero_le _, effs := ?_, tmp := ?_, dfr := rfl, tsz := rfl, rep := hR0, hB := hB, glob := hG, born := ?_, early := ?_, eapart := ?_, pend := ?_, keep := fun _ _ => rfl, frame := fun _ _ _ => rfl, origin := ?_, unreal := fun _ _ _ => rfl, fzle := fun _ _ h => h, ice := fun _ h => .inl h, os := rfl, tape := rfl, output := rfl, size := Nat.le_refl _ }
            · intro i hi; simp [Array.getElem?_replicate] at hi
            · intro i j hj; simp [Array.getElem?_replicate] at hj
            · intro i o h1 h2; simp [Array.getElem?_replicate]
            · intro t v hv
              rcases hv with ⟨i, o, hi, _⟩ | ⟨_, hv⟩
              · simp [Array.getElem?_replicate] at hi
              · rw [e1'] at hv; exact hT t v hv
            · intro k l h1 h2 h3
              rw [e1] at h1
              rw [e2] at h2
              rw [hF k h1 h2] at h3
              cases h3
            · intro i b hi; simp [Array.getElem?_replicate] at hi
            · intro i b i' b' l l' _ hi; simp [Array.getElem?_replicate] at hi
            · intro i b _ hA
              refine ⟨?_, fun h => by omega⟩
              have g0 := (X.grow_le (Nat.zero_le i) (Nat.le_of_lt hA.lt)).len
              have g1 := (X.grow_le (show i + 1 ≤ ops.length from hA.lt) (Nat.le_refl _)).len
              have g2 := (List.getElem?_eq_some_iff.1 hA.at).1
              rw [e1] at g0
              rw [e2] at g1
              exact hF _ g0 (by omega)
            · intro k l b h1 _ h3
              have := (List.getElem?_eq_some_iff.1 h3).1
              omega
        · cases h
  · cases h
end
end Go.Ab
namespace Go.Ab
section
variable {C : Cfg} {B : Nat} {ι ι' : Emb} {m : Mem} {w : World}
def Seen (ι : Emb) (m : Mem) (ns : List Nat) : Prop := ∀ n ∈ ns, ∃ l b, ι n = some l ∧ m[n]? = some b ∧ b.live = true
def Iced (ι ι' : Emb) (m : Mem) (w : World) (ns : List Nat) : Prop := ∀ n ∈ ns, ∀ l b, ι n = some l → m[n]? = some b → b.live = true → ∃ c e z, w.heap[l.g]? = some (.cells c e z) ∧ ι'.fz l.g = some c
theorem mapF_seen {f : Value → Option (Value × List Nat)} (hf : ∀ v v' vf ns, f v = some (vf, ns) → VR ι v v' → Seen ι m ns) : ∀ (vs vs' xs : List Value) (ns : List Nat), mapF f vs = some (xs, ns) → VRL ι vs vs' → Seen ι m ns
  | [], vs', xs, ns, h, hr => by
    simp only [mapF] at h
    cases h
    intro n hn; cases hn
  | v :: vs, vs', xs, ns, h, hr => by
    obtain ⟨y, ys, rfl, r1, r2⟩ := hr.cases_cons
    simp only [mapF] at h
    split at h
    · cases h
    · rename_i y1 a h1
      split at h
      · cases h
      · rename_i ys1 b h2
        cases h
        intro n hn
        rw [List.mem_append] at hn
        rcases hn with hn | hn
        · exact hf v y _ _ h1 r1 n hn
        · exact mapF_seen hf vs ys _ _ h2 r2 n hn
theorem mapF_sound {f : Value → Option (Value × List Nat)} (hf : ∀ v v' vf ns, f v = some (vf, ns) → Iced ι ι' m w ns → VR ι v v' → VR ι'.bare vf v') : ∀ (vs vs' xs : List Value) (ns : List Nat), mapF f vs = some (xs, ns) → Iced ι ι' m w ns → VRL ι vs vs' → VRL ι'.bare xs vs'
  | [], vs', xs, ns, h, _, hr => by
    simp only [mapF] at h
    cases h
    rw [hr.cases_nil]
    exact .nil
  | v :: vs, vs', xs, ns, h, hi, hr => by
    obtain ⟨y, ys, rfl, r1, r2⟩ := hr.cases_cons
    simp only [mapF] at h
    split at h
    · cases h
    · rename_i y1 a h1
      split at h
      · cases h
      · rename_i ys1 b h2
        cases h
        exact .cons (hf v y _ _ h1 (fun n hn => hi n (List.mem_append_left _ hn)) r1) (mapF_sound hf vs ys _ _ h2 (fun n hn => hi n (List.mem_append_right _ hn)) r2)
theorem frz_seen (R : Rep B ι m w) : ∀ (k : Nat) (v v' vf : Value) (ns : List Nat), frz k m v = some (vf, ns) → VR ι v v' → Seen ι m ns := by
  intro k
  induction k with
  | zero => intro v v' vf ns h; simp [frz] at h
  | succ k ih =>
    intro v v' vf ns h r
    have nothing : ∀ u, some (u, ([] : List Nat)) = some (vf, ns) → Seen ι m ns := fun u e => by
      cases e
      intro n hn; cases hn
    unfold frz at h
    split at h
    · split at h
      · rename_i xs ns1 hm
        cases h
        cases r with
        | agg a a' h1 h2 => exact mapF_seen ih _ _ _ _ hm (VR.arr h1 h2)
      · cases h
    · split at h
      · rename_i xs ns1 hm
        cases h
        cases r with
        | tuple a a' h1 h2 => exact mapF_seen ih _ _ _ _ hm (VR.arr h1 h2)
      · cases h
    · exact nothing _ h
    · split at h
      · exact nothing _ h
      · split at h
        · rename_i b hb
          split at h
          · rename_i hv
            split at h
            · rename_i cs hrd
              split at h
              · rename_i xs ns1 hm
                cases h
                cases r with
                | sl n o len acap l off ccap h1 h2 h3 h4 h5 =>
                obtain ⟨_, _, cs', q1, _⟩ := rd_sound R h1 hrd
                intro n' hn'
                rw [List.mem_cons] at hn'
                rcases hn' with rfl | hn'
                · exact ⟨l, b, h1, hb, hv⟩
                · exact mapF_seen ih _ _ _ _ hm q1 n' hn'
              · cases h
            · cases h
          · cases h
        · cases h
    · split at h
      · rename_i b hb
        split at h
        · rename_i hv
          split at h
          · rename_i xs ns1 hm
            cases h
            cases r with
            | ptr n o l h1 =>
            have hrd : rd m n o (b.cells.length - o) = some (b.cells.drop o) := by
              unfold rd
              split
              · rename_i h0
                rw [List.drop_eq_nil_of_le (by omega)]
              · simp only [hb]
                rw [if_pos ⟨hv.1, by have := hv.2; simp only at this; omega⟩, List.take_of_length_le (by simp)]
            obtain ⟨_, _, cs', q1, _⟩ := rd_sound R h1 hrd
            intro n' hn'
            rw [List.mem_cons] at hn'
            rcases hn' with rfl | hn'
            · exact ⟨l, b, h1, hb, hv.1⟩
            · exact mapF_seen ih _ _ _ _ hm q1 n' hn'
          · cases h
        · cases h
      · cases h
    · exact nothing _ h
    · split at h
      · exact nothing _ h
      · cases h
    · exact nothing _ h
    · exact nothing _ h
    · exact nothing _ h
    · exact nothing _ h
    · exact nothing _ h
    · exact nothing _ h
    · cases h
theorem flat_back {xs cs' : List Value} (h : VRL ι xs cs') (hf : cs'.all flat = true) : xs.all flat = true := by
  rw [List.all_eq_true] at hf ⊢
  intro x hx
  obtain ⟨i, hi, rfl⟩ := List.getElem_of_mem hx
  obtain ⟨y, h1, h2⟩ := h.get (List.getElem?_eq_getElem hi)
  rw [← h2.flat]
  exact hf y (List.mem_of_getElem? h1)
theorem frozen_cells {xs cs' : List Value} {c : Array Value} {e : TypeId} {z : Nat × Nat} {g off : Nat} (hx : VRL ι xs cs') (hh : w.heap[g]? = some (.cells c e z)) (hc : ∀ (j : Nat) v, cs'[j]? = some v → w.cell? ⟨g, off + j, none⟩ = some v) :
    (xs.toArray.size = 0 ∨ off + xs.toArray.size ≤ c.size) ∧ ∀ (i : Nat) x y, xs.toArray[i]? = some x → c[off + i]? = some y → VR ι x y := by
  have cell : ∀ (j : Nat) v, cs'[j]? = some v → c[off + j]? = some v := fun j v hj => by
    have := hc j v hj
    simpa [World.cell?, hh] using this
  constructor
  · rcases Nat.eq_zero_or_pos xs.length with h0 | h0
    · left; simpa using h0
    · right
      have hl := hx.1
      have := cell (xs.length - 1) _ (List.getElem?_eq_getElem (by omega))
      have := (Array.getElem?_eq_some_iff.1 this).1
      simp
      omega
  · intro i x y h1 h2
    obtain ⟨u, q1, q2⟩ := hx.get (i := i) (x := x) (by simpa using h1)
    rw [cell i u q1] at h2
    cases h2
    exact q2
theorem frz_sound (R : Rep B ι m w) (hfz : ∀ g c, ι.fz g = some c → ι'.fz g = some c) : ∀ (k : Nat) (v v' vf : Value) (ns : List Nat), frz k m v = some (vf, ns) → Iced ι ι' m w ns → VR ι v v' → VR ι'.bare vf v' := by
  intro k
  induction k with
  | zero => intro v v' vf ns h; simp [frz] at h
  | succ k ih =>
    intro v v' vf ns h hi r
    unfold frz at h
    split at h
    · split at h
      · rename_i xs ns1 hm
        cases h
        cases r with
        | agg a a' h1 h2 =>
          have := (mapF_sound ih _ _ _ _ hm hi (VR.arr h1 h2)).agg
          simpa using this
      · cases h
    · split at h
      · rename_i xs ns1 hm
        cases h
        cases r with
        | tuple a a' h1 h2 =>
          have := (mapF_sound ih _ _ _ _ hm hi (VR.arr h1 h2)).tuple
          simpa using this
      · cases h
    · cases h
      cases r with
      | slNil a ha => exact .ro0 a 0 ha
    · split at h
      · rename_i h0
        cases h
        cases r with
        | sl n o len acap l off ccap h1 h2 h3 h4 h5 =>
        subst h0
        exact .ro0 _ ccap (plainA.some _ _)
      · rename_i h0
        split at h
        · rename_i b hb
          split at h
          · rename_i hv
            split at h
            · rename_i cs hrd
              split at h
              · rename_i xs ns1 hm
                cases h
                cases r with
                | sl n o len acap l off ccap h1 h2 h3 h4 h5 =>
                obtain ⟨_, q0, cs', q1, q2⟩ := rd_sound R h1 hrd
                have hx := mapF_sound ih _ _ _ _ hm (fun n' hn' => hi n' (List.mem_cons_of_mem _ hn')) q1
                obtain ⟨c, e, z, p1, p2⟩ := hi n (List.mem_cons_self ..) l b h1 hb hv
                have hoff : off = l.sh + o := h5.resolve_left (by omega)
                subst hoff
                obtain ⟨t1, t2⟩ := frozen_cells hx p1 q2
                exact .ro _ xs.toArray l.g (l.sh + o) ccap c p2 t1 (Nat.le_trans h2 h3) t2 (by simpa using flat_back hx (q1.all_flat q0))
              · cases h
            · cases h
          · cases h
        · cases h
    · split at h
      · rename_i b hb
        split at h
        · rename_i hv
          split at h
          · rename_i xs ns1 hm
            cases h
            cases r with
            | ptr n o l h1 =>
            have hrd : rd m n o (b.cells.length - o) = some (b.cells.drop o) := by
              unfold rd
              split
              · rename_i h0
                rw [List.drop_eq_nil_of_le (by omega)]
              · simp only [hb]
                rw [if_pos ⟨hv.1, by have := hv.2; simp only at this; omega⟩, List.take_of_length_le (by simp)]
            obtain ⟨_, q0, cs', q1, q2⟩ := rd_sound R h1 hrd
            have hx := mapF_sound ih _ _ _ _ hm (fun n' hn' => hi n' (List.mem_cons_of_mem _ hn')) q1
            obtain ⟨c, e, z, p1, p2⟩ := hi n (List.mem_cons_self ..) l b h1 hb hv.1
            obtain ⟨t1, t2⟩ := frozen_cells hx p1 q2
            exact .rop xs.toArray l.g (l.sh + o) c p2 t1 t2 (by simpa using flat_back hx (q1.all_flat q0))
          · cases h
        · cases h
      · cases h
    · cases h; cases r; exact .ptrNil
    · split at h
      · rename_i h0
        cases h
        cases r with
        | func fn a a' b b' g1 g2 g3 g4 =>
          refine .func _ #[] _ #[] _ ?_ (fun i x y hx => by simp at hx) ?_ (fun i x y hx => by simp at hx)
          · have := h0.1; simp; omega
          · have := h0.2; simp; omega
      · cases h
    · cases h; cases r; exact .bool _
    · cases h; cases r; exact .int _ _
    · cases h; cases r; exact .string _
    · cases h; cases r; exact .nilFunc
    · cases h
      have hle : ι.bare.le ι'.bare := ⟨fun _ _ e => e, hfz⟩
      cases r with
      | ro len cs g off ccap c h1 h2 h3 h4 h5 => exact .ro _ cs g off ccap c (hfz _ _ h1) h2 h3 (fun i x y hx hy => (h4 i x y hx hy).mono hle) h5
      | ro0 a ccap ha => exact .ro0 a ccap ha
      | rop cs g off c h1 h2 h3 h4 => exact .rop cs g off c (hfz _ _ h1) h2 (fun i x y hx hy => (h3 i x y hx hy).mono hle) h4
    · cases h
      cases r with
      | sNil c => exact .sNil c
      | sEmp a c => exact .sEmp a c
    · cases h
end
end Go.Ab
namespace Go.Ab
section
variable {C : Cfg} {B : Nat} {ι ι' : Emb} {m : Mem} {w : World}
theorem seal_len : ∀ (ns : List Nat) (m : Mem), (sealM m ns).length = m.length
  | [], m => rfl
  | n :: ns, m => by
    rw [sealM, seal_len ns]
    split <;> simp
theorem seal_get : ∀ (ns : List Nat) (m : Mem) (k : Nat) (b' : Blk), (sealM m ns)[k]? = some b' → ∃ b, m[k]? = some b ∧ b'.cells = b.cells ∧ b'.es = b.es ∧ b'.live = b.live ∧ ((k ∈ ns ∧ b'.own = false) ∨ (k ∉ ns ∧ b' = b))
  | [], m, k, b', h => ⟨b', h, rfl, rfl, rfl, .inr ⟨by simp, rfl⟩⟩
  | n :: ns, m, k, b', h => by
    rw [sealM] at h
    obtain ⟨b1, h1, e1, e2, e3, e4⟩ := seal_get ns _ k b' h
    split at h1
    · rename_i b hb
      by_cases hk : n = k
      · subst hk
        rw [List.getElem?_set_self (List.getElem?_eq_some_iff.1 hb).1] at h1
        cases h1
        refine ⟨b, hb, e1, e2, e3, .inl ⟨List.mem_cons_self .., ?_⟩⟩
        rcases e4 with ⟨_, h⟩ | ⟨_, h⟩
        · exact h
        · rw [h]
      · rw [List.getElem?_set_ne hk] at h1
        refine ⟨b1, h1, e1, e2, e3, ?_⟩
        rcases e4 with ⟨h, h'⟩ | ⟨h, h'⟩
        · exact .inl ⟨List.mem_cons_of_mem _ h, h'⟩
        · exact .inr ⟨by rw [List.mem_cons]; rintro (h0 | h0); exact hk h0.symm; exact h h0, h'⟩
    · rename_i hb
      refine ⟨b1, h1, e1, e2, e3, ?_⟩
      rcases e4 with ⟨h, h'⟩ | ⟨h, h'⟩
      · exact .inl ⟨List.mem_cons_of_mem _ h, h'⟩
      · refine .inr ⟨?_, h'⟩
        rw [List.mem_cons]
        rintro (h0 | h0)
        · subst h0
          rw [hb] at h1; cases h1
        · exact h h0
theorem seal_none (ns : List Nat) (m : Mem) (k : Nat) (h : k ∉ ns) : (sealM m ns)[k]? = m[k]? := by
  cases h1 : (sealM m ns)[k]? with
  | none =>
    rw [List.getElem?_eq_none_iff, seal_len] at h1
    rw [List.getElem?_eq_none h1]
  | some b' =>
    obtain ⟨b, h2, _, _, _, h3⟩ := seal_get ns m k b' h1
    rcases h3 with ⟨h3, _⟩ | ⟨_, h3⟩
    · exact absurd h3 h
    · rw [h2, h3]
theorem seal_grow (m : Mem) (ns : List Nat) : Grow m (sealM m ns) := by
  refine ⟨by rw [seal_len]; exact Nat.le_refl _, fun k b hb => ?_⟩
  have hk := (List.getElem?_eq_some_iff.1 hb).1
  have h1 : (sealM m ns)[k]? = some ((sealM m ns)[k]'(by rw [seal_len]; exact hk)) := List.getElem?_eq_getElem _
  obtain ⟨b0, h2, e1, e2, e3, e4⟩ := seal_get ns m k _ h1
  rw [hb] at h2
  cases h2
  refine ⟨_, h1, e2, fun h => ?_, fun h => by rw [← e3]; exact h⟩
  rcases e4 with ⟨_, h'⟩ | ⟨_, h'⟩
  · rw [h'] at h; cases h
  · rw [← h']; exact h
def Spots (ι : Emb) (m : Mem) (ns : List Nat) (g : Nat) : Prop := ∃ n l b, n ∈ ns ∧ ι n = some l ∧ m[n]? = some b ∧ b.live = true ∧ b.own = true ∧ l.g = g
open Classical in
noncomputable def Emb.freeze (ι : Emb) (S : Nat → Prop) (w : World) : Emb :=
  { ι with fz := fun g => if S g then (match w.heap[g]? with
    | some (.cells c _ _) => some c
    | _ => none) else ι.fz g }
theorem freeze_not {S : Nat → Prop} {g : Nat} (h : ¬ S g) : (ι.freeze S w).fz g = ι.fz g := by
  simp [Emb.freeze, h]
theorem spots_cold (R : Rep B ι m w) {ns : List Nat} {g : Nat} (h : Spots ι m ns g) : ι.fz g = none := by
  obtain ⟨n, l, b, _, h1, h2, h3, h4, rfl⟩ := h
  exact R.cold n l b h1 h2 h3 h4
theorem freeze_le (R : Rep B ι m w) (ns : List Nat) : ι.le (ι.freeze (Spots ι m ns) w) := by
  refine ⟨fun _ _ h => h, fun g c h => ?_⟩
  rw [freeze_not]
  · exact h
  · intro hs
    rw [spots_cold R hs] at h
    cases h
theorem freeze_at (R : Rep B ι m w) {ns : List Nat} {g : Nat} (h : Spots ι m ns g) : ∃ c e z, w.heap[g]? = some (.cells c e z) ∧ (ι.freeze (Spots ι m ns) w).fz g = some c := by
  have hs := h
  obtain ⟨n, l, b, _, h1, h2, h3, h4, rfl⟩ := h
  obtain ⟨c, e, z, q, _⟩ := (R.cells n l b h1 h2 h3).ex
  exact ⟨c, e, z, q, by simp [Emb.freeze, hs, q]⟩
theorem freeze_iced (R : Rep B ι m w) (ns : List Nat) : Iced ι (ι.freeze (Spots ι m ns) w) m w ns := by
  intro n hn l b h1 h2 h3
  cases ho : b.own with
  | true => exact freeze_at R ⟨n, l, b, hn, h1, h2, h3, ho, rfl⟩
  | false =>
    obtain ⟨c, hc⟩ := R.kept n l b h1 h2 h3 ho
    obtain ⟨e, z, hz⟩ := R.frozen _ _ hc
    exact ⟨c, e, z, hz, (freeze_le R ns).fz _ _ hc⟩
theorem After.seal (R : Rep B ι m w) {ns : List Nat} (hs : Seen ι m ns) : After B ι m w (ι.freeze (Spots ι m ns) w) (sealM m ns) w := by
  have hle := freeze_le R ns
  refine { len := by rw [seal_len]; exact Nat.le_refl _, keep := fun _ _ => rfl, rep := ⟨?_, ?_, ?_, ?_, ?_, ?_, ?_⟩, frame := fun _ _ _ => rfl, origin := ?_, alive := ?_, fz := hle.fz, ice := ?_, unreal := ?_, os := rfl, tape := rfl, output := rfl, size := Nat.le_refl _ }
  · intro n l b h1 h2 h3
    obtain ⟨b0, q1, e1, e2, e3, e4⟩ := seal_get ns m n b h2
    have M := R.cells n l b0 h1 q1 (by rw [← e3]; exact h3)
    obtain ⟨c, e, z, m1, m2, m3, m4, m5⟩ := M.ex
    refine ⟨⟨c, e, z, m1, m2, by rw [e1]; exact m3, fun i v hv => ?_, fun ho => ?_⟩, by rw [e1]; exact M.flat⟩
    · rw [e1] at hv
      obtain ⟨v', t1, t2⟩ := m4 i v hv
      exact ⟨v', t1, t2.mono hle⟩
    · rcases e4 with ⟨_, h⟩ | ⟨_, h⟩
      · rw [h] at ho; cases ho
      · exact m5 (by rw [← h]; exact ho)
  · intro n n' l l' b b' h0 h1 h2 h3 h4 h5 h6 h7
    obtain ⟨b0, q1, e1, e2, e3, e4⟩ := seal_get ns m n b h3
    obtain ⟨b0', q1', e1', e2', e3', e4'⟩ := seal_get ns m n' b' h4
    rcases e4 with ⟨_, h⟩ | ⟨_, h⟩
    · rw [h] at h7; cases h7
    · exact R.apart n n' l l' b0 b0' h0 h1 h2 q1 q1' (by rw [← e3]; exact h5) (by rw [← e3']; exact h6) (by rw [← h]; exact h7)
  · intro n l b h1 h2 h3 h4
    obtain ⟨b0, q1, e1, e2, e3, e4⟩ := seal_get ns m n b h2
    rcases e4 with ⟨_, h⟩ | ⟨_, h⟩
    · rw [h] at h4; cases h4
    · subst h; exact R.base n l b h1 q1 h3 h4
  · intro n l b h1 h2
    obtain ⟨b0, q1, e1, e2, e3, e4⟩ := seal_get ns m n b h2
    rw [e2]
    exact R.es n l b0 h1 q1
  · intro g c h
    by_cases hS : Spots ι m ns g
    · obtain ⟨c', e, z, q1, q2⟩ := freeze_at R hS
      rw [h] at q2
      cases q2
      exact ⟨e, z, q1⟩
    · rw [freeze_not hS] at h
      exact R.frozen g c h
  · intro n l b h1 h2 h3 h4
    obtain ⟨b0, q1, e1, e2, e3, e4⟩ := seal_get ns m n b h2
    rcases e4 with ⟨_, h⟩ | ⟨hn, h⟩
    · rw [h] at h4; cases h4
    · subst h
      rw [freeze_not]
      · exact R.cold n l b h1 q1 h3 h4
      · rintro ⟨n2, l2, b2, z1, z2, z3, z4, z5, z6⟩
        exact R.apart n n2 l l2 b b2 (fun h => by subst h; exact hn z1) h1 z2 q1 z3 h3 z4 h4 z6.symm
  · intro n l b h1 h2 h3 h4
    obtain ⟨b0, q1, e1, e2, e3, e4⟩ := seal_get ns m n b h2
    have h3' : b0.live = true := by rw [← e3]; exact h3
    cases ho : b0.own with
    | true =>
      rcases e4 with ⟨hn, h⟩ | ⟨hn, h⟩
      · obtain ⟨c, e, z, _, q⟩ := freeze_at R ⟨n, l, b0, hn, h1, q1, h3', ho, rfl⟩
        exact ⟨c, q⟩
      · rw [h, ho] at h4; cases h4
    | false =>
      obtain ⟨c, hc⟩ := R.kept n l b0 h1 q1 h3' ho
      exact ⟨c, hle.fz _ _ hc⟩
  · intro n l b h1 _ h3 _
    have := (List.getElem?_eq_some_iff.1 h3).1
    rw [seal_len] at this
    omega
  · intro k b' hk hb
    obtain ⟨b0, q1, e1, e2, e3, e4⟩ := seal_get ns m k b' hb
    refine ⟨b0, q1, e2, fun h => ?_, fun h => by rw [← e3]; exact h⟩
    rcases e4 with ⟨_, h'⟩ | ⟨_, h'⟩
    · rw [h'] at h; cases h
    · rw [← h']; exact h
  · intro g hg
    by_cases hS : Spots ι m ns g
    · obtain ⟨n, l, b, _, z2, z3, z4, z5, z6⟩ := hS
      exact .inr (.inr ⟨n, l, b, z2, z3, z4, z5, z6⟩)
    · rw [freeze_not hS]
      exact .inl hg
  · intro k _ hk
    apply seal_none
    intro hn
    obtain ⟨l, b, q1, _⟩ := hs k hn
    rw [hk] at q1
    cases q1
def Emb.cut (ι : Emb) (G : Nat) : Emb := { ι with loc := fun n => if n < G then ι n else none }
theorem VR.inert {ι ι1 : Emb} (hfz : ι1.fz = ι.fz) {v v' : Value} (r : VR ι v v') (h : Ab.inert v = true) : VR ι1 v v' := by
  have hb : ι.bare.le ι1.bare := ⟨fun _ _ e => e, fun g c e => by simp only [Emb.bare] at e ⊢; rw [hfz]; exact e⟩
  cases r with
  | bool b => exact .bool b
  | int k n => exact .int k n
  | string s => exact .string s
  | nilFunc => exact .nilFunc
  | ptrNil => exact .ptrNil
  | ptr n o l h1 => simp [Ab.inert] at h
  | slNil a ha => exact .slNil a ha
  | sl n o len acap l off ccap h1 h2 h3 h4 h5 => simp [Ab.inert] at h
  | ro len cs g off ccap c h1 h2 h3 h4 h5 => exact .ro _ cs g off ccap c (by rw [hfz]; exact h1) h2 h3 (fun i x y hx hy => (h4 i x y hx hy).mono hb) h5
  | ro0 a ccap ha => exact .ro0 a ccap ha
  | sNil ccap => exact .sNil ccap
  | sEmp a ccap => exact .sEmp a ccap
  | rop cs g off c h1 h2 h3 h4 => exact .rop cs g off c (by rw [hfz]; exact h1) h2 (fun i x y hx hy => (h3 i x y hx hy).mono hb) h4
  | func fn a a' b b' h1 h2 h3 h4 => simp [Ab.inert] at h
  | agg a a' h1 h2 => simp [Ab.inert] at h
  | tuple a a' h1 h2 => simp [Ab.inert] at h
theorem cut_loc {ι : Emb} {G n : Nat} {l : Loc} (h : (ι.cut G) n = some l) : n < G ∧ ι n = some l := by
  simp only [Emb.cut] at h
  split at h
  · exact ⟨‹_›, h⟩
  · cases h
theorem take_get {m : Mem} {G n : Nat} {b : Blk} (h : (m.take G)[n]? = some b) : n < G ∧ m[n]? = some b := by
  rw [List.getElem?_take] at h
  split at h
  · exact ⟨‹_›, h⟩
  · cases h
theorem cut_rep (R : Rep B ι m w) (G : Nat) (hin : ∀ (n : Nat) (b : Blk), (m.take G)[n]? = some b → b.cells.all inert = true) : Rep B (ι.cut G) (m.take G) w := by
  refine ⟨fun n l b h1 h2 h3 => ?_, fun n n' l l' b b' h0 h1 h2 h3 h4 h5 h6 h7 => ?_, fun n l b h1 h2 h3 h4 => ?_, fun n l b h1 h2 => ?_, R.frozen, fun n l b h1 h2 h3 h4 => ?_, fun n l b h1 h2 h3 h4 => ?_⟩
  · have M := R.cells n l b (cut_loc h1).2 (take_get h2).2 h3
    obtain ⟨c, e, z, m1, m2, m3, m4, m5⟩ := M.ex
    refine ⟨⟨c, e, z, m1, m2, m3, fun i v hv => ?_, m5⟩, M.flat⟩
    obtain ⟨v', t1, t2⟩ := m4 i v hv
    have hi := hin n b h2
    rw [List.all_eq_true] at hi
    exact ⟨v', t1, VR.inert (ι := ι) (ι1 := ι.cut G) rfl t2 (hi v (List.mem_of_getElem? hv))⟩
  · exact R.apart n n' l l' b b' h0 (cut_loc h1).2 (cut_loc h2).2 (take_get h3).2 (take_get h4).2 h5 h6 h7
  · exact R.base n l b (cut_loc h1).2 (take_get h2).2 h3 h4
  · exact R.es n l b (cut_loc h1).2 (take_get h2).2
  · exact R.cold n l b (cut_loc h1).2 (take_get h2).2 h3 h4
  · exact R.kept n l b (cut_loc h1).2 (take_get h2).2 h3 h4
end
end Go.Ab
namespace Go.Ab
section
variable {C : Cfg} {B : Nat} {ι ι1 : Emb} {m m2 : Mem} {w w' : World}
theorem After.still {G : Nat} (R : Rep B ι m w) (hg : ∀ (n : Nat) (b : Blk), (m.take G)[n]? = some b → b.own = false) (A : After B (ι.cut G) (m.take G) w ι1 m2 w') (ns : List Nat) :
    After B ι m w { ι with fz := (ι1.freeze (Spots ι1 m2 ns) w').fz } m w' := by
  have own2 : ∀ {n l b}, ι1 n = some l → m2[n]? = some b → b.live = true → b.own = true → w.heap.size ≤ l.g := by
    intro n l b h1 h2 h3 h4
    rcases Nat.lt_or_ge n (m.take G).length with h | h
    · obtain ⟨b0, q1, _, q2, _⟩ := A.alive n b h h2
      have := hg n b0 q1
      rw [q2 h4] at this
      cases this
    · rcases A.origin n l b h h1 h2 h3 with h' | ⟨k, l0, b0, _, q2, _, q4, _⟩
      · exact h'
      · have := hg k b0 q2
        rw [q4] at this
        cases this
  have spot : ∀ {g}, Spots ι1 m2 ns g → w.heap.size ≤ g := by
    rintro g ⟨n, l, b, _, h1, h2, h3, h4, rfl⟩
    exact own2 h1 h2 h3 h4
  have ice1 : ∀ g, ι.fz g = none → g < w.heap.size → ι1.fz g = none := by
    intro g h1 h2
    rcases A.ice g h1 with h | h | ⟨n, l, b, _, q2, _, q4, _⟩
    · exact h
    · omega
    · have := hg n b q2
      rw [q4] at this
      cases this
  have fzle : ∀ g c, ι.fz g = some c → (ι1.freeze (Spots ι1 m2 ns) w').fz g = some c := fun g c h => (freeze_le A.rep ns).fz g c (A.fz g c h)
  have hle : ι.le { ι with fz := (ι1.freeze (Spots ι1 m2 ns) w').fz } := ⟨fun _ _ h => h, fzle⟩
  have frame : ∀ g, g < w.heap.size → w'.heap[g]? = w.heap[g]? := fun g h => A.frame g h fun n l b _ q2 _ q4 => by
    have := hg n b q2
    rw [q4] at this
    cases this
  refine { len := Nat.le_refl _, keep := fun _ _ => rfl, rep := ⟨?_, R.apart, R.base, R.es, ?_, ?_, ?_⟩, frame := fun g h _ => frame g h, origin := ?_, alive := fun k b' _ h => ⟨b', h, rfl, id, id⟩, fz := fzle, ice := ?_, unreal := fun _ _ _ => rfl, os := A.os, tape := A.tape, output := A.output, size := A.size }
  · intro n l b h1 h2 h3
    have M := R.cells n l b h1 h2 h3
    exact (M.mono hle).heap (frame _ M.lt)
  · intro g c h
    by_cases hS : Spots ι1 m2 ns g
    · obtain ⟨c', e, z, q1, q2⟩ := freeze_at A.rep hS
      simp only at h
      rw [q2] at h
      cases h
      exact ⟨e, z, q1⟩
    · simp only at h
      rw [freeze_not hS] at h
      exact A.rep.frozen g c h
  · intro n l b h1 h2 h3 h4
    have hlt := (R.cells n l b h1 h2 h3).lt
    simp only
    rw [freeze_not]
    · exact ice1 _ (R.cold n l b h1 h2 h3 h4) hlt
    · intro hS
      have := spot hS
      omega
  · intro n l b h1 h2 h3 h4
    obtain ⟨c, hc⟩ := R.kept n l b h1 h2 h3 h4
    exact ⟨c, fzle _ _ hc⟩
  · intro n l b h1 _ h3 _
    have := (List.getElem?_eq_some_iff.1 h3).1
    omega
  · intro g hg'
    by_cases hS : Spots ι1 m2 ns g
    · exact .inr (.inl (spot hS))
    · simp only
      rw [freeze_not hS]
      rcases A.ice g hg' with h | h | ⟨n, l, b, _, q2, _, q4, _⟩
      · exact .inl h
      · exact .inr (.inl h)
      · have := hg n b q2
        rw [q4] at this
        cases this
end
end Go.Ab
namespace Go.Ab
def resSem (a : Act) : ResultVar → Sem Value
  | .tmp t => pure (a.tmps.getD t undef)
  | .cell x t => do loadVar t (← asAddr (a.tmps.getD x undef))
section
variable {C : Cfg} {B : Nat} {ι : Emb} {T : Tm} {a : Act} {m : Mem} {w : World}
variable (hC : CfgOK C)
include hC
theorem resOf_sound (R : Rep B ι m w) (hT : TR ι T a.tmps) {r : ResultVar} {v : Value} (h : resOf C m T r = some v) :
    ∃ v', VR ι v v' ∧ (resSem a r).run C.P w = .ok v' w := by
  unfold resOf at h
  cases r with
  | tmp t =>
    simp only at h
    obtain ⟨v', h1, h2⟩ := hT t v h
    exact ⟨v', h2, by simp [resSem, Array.getD_eq_getD_getElem?, h1]⟩
  | cell x t =>
    simp only at h
    split at h
    · rename_i p hp
      obtain ⟨u, h1, h2⟩ := hT x _ hp
      cases h2 with
      | ptr n o l hl =>
      obtain ⟨s1, s2⟩ := loadVar_sound hC (t := t) (o := o) R hl
      have fin : ∀ v', (loadVar t ⟨l.g, l.sh + o, none⟩).run C.P w = .ok v' w → (resSem a (.cell x t)).run C.P w = .ok v' w := by
        intro v' hv
        simp [resSem, Array.getD_eq_getD_getElem?, h1, asAddr, hv]
      have key : ∀ d, (C.ty t).d = d → isOther d = false → aggD d = false → one (rd m n o 1) = some v → ∃ v', VR ι v v' ∧ (resSem a (.cell x t)).run C.P w = .ok v' w := by
        intro d hd q1 q2 hu
        obtain ⟨v', r, hv'⟩ := s2 _ _ hd q1 q2 (one_some hu)
        exact ⟨v', r, fin v' hv'⟩
      cases hd : (C.ty t).d with
      | other => simp [hd] at h
      | struct fs =>
        simp only [hd] at h
        split at h
        · rename_i cs hr
          cases h
          obtain ⟨v', r, hv'⟩ := s1 fs cs hd hr
          exact ⟨v', r, fin v' hv'⟩
        · cases h
      | _ => exact key _ hd rfl rfl (by simpa [hd] using h)
    · cases h
theorem resL_sound (R : Rep B ι m w) (hT : TR ι T a.tmps) : ∀ {rs : List ResultVar} {vs : List Value}, resL C m T rs = some vs →
    ∃ vs', VRL ι vs vs' ∧ (rs.mapM (resSem a)).run C.P w = .ok vs' w
  | [], vs, h => by
    simp only [resL] at h
    cases h
    exact ⟨[], .nil, by simp⟩
  | r :: rs, vs, h => by
    simp only [resL] at h
    split at h
    · cases h
    · rename_i v hv
      split at h
      · cases h
      · rename_i vs1 hvs
        cases h
        obtain ⟨v', r1, h1⟩ := resOf_sound hC R hT hv
        obtain ⟨vs', r2, h2⟩ := resL_sound R hT hvs
        refine ⟨v' :: vs', .cons r1 r2, ?_⟩
        rw [List.mapM_cons]
        simp only [Sem.run_bind, h1, Result.andThen_ok, h2, Sem.run_pure]
theorem resultA_sound (R : Rep B ι m w) (hT : TR ι T a.tmps) {fn : Func} {v : Value} (h : resultA C fn m T = some v) : ∃ v', VR ι v v' ∧ (results fn a.tmps).run C.P w = .ok v' w := by
  unfold resultA at h
  have hres : ∀ vs', (fn.results.toList.mapM (resSem a)).run C.P w = .ok vs' w →
      (results fn a.tmps).run C.P w = .ok (if h : vs'.toArray.size = 1 then vs'.toArray[0] else .tuple vs'.toArray) w := by
    intro vs' h'
    have e : results fn a.tmps = (do
        let vs ← fn.results.mapM (resSem a)
        pure (if h : vs.size = 1 then vs[0] else .tuple vs)) := by
      unfold results
      congr 1
    rw [e]
    rw [Array.mapM_eq_mapM_toList]
    simp only [map_eq_pure_bind, Sem.run_bind, Sem.run_pure]
    rw [h']
    rfl
  split at h
  · rename_i u hu
    cases h
    obtain ⟨vs', r, h1⟩ := resL_sound hC R hT hu
    obtain ⟨y, ys, rfl, r1, r2⟩ := r.cases_cons
    cases r2.cases_nil
    exact ⟨y, r1, hres _ h1⟩
  · rename_i vs hne hu
    cases h
    obtain ⟨vs', r, h1⟩ := resL_sound hC R hT hu
    refine ⟨.tuple vs'.toArray, r.tuple, ?_⟩
    have : ¬ vs'.toArray.size = 1 := by
      intro h2
      have h3 : vs.length = 1 := by rw [r.1]; simpa using h2
      match vs, h3 with
      | [x], _ => exact hne x rfl
    rw [hres _ h1, dif_neg this]
  · cases h
end
section
variable {C : Cfg}
theorem argsT_lookup : ∀ (i : Nat) (vs : List Value) (t : Nat), (argsT i vs).lookup t = if i ≤ t then vs[t - i]? else none
  | i, [], t => by simp [argsT]
  | i, v :: vs, t => by
    rw [argsT, List.lookup_cons, argsT_lookup (i + 1) vs t]
    by_cases e : t = i
    · subst e; simp
    · have : (t == i) = false := by simpa using e
      rw [this]
      simp only
      by_cases h : i ≤ t
      · rw [if_pos h, if_pos (by omega)]
        have : t - i = (t - (i + 1)) + 1 := by omega
        rw [this, List.getElem?_cons_succ]
      · rw [if_neg h, if_neg (by omega)]
variable (hC : CfgOK C)
include hC
end
end Go.Ab
