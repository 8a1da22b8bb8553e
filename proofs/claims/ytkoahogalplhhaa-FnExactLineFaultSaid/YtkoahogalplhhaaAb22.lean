/- Part of an own evaluator of Go code on numbered blocks, and of the proof that the machine does what it says; each theorem carries its own conditions. -/
import Derived.Test.YtkoahogalplhhaaAb21
set_option linter.unusedVariables false
set_option linter.unusedSimpArgs false
namespace Go.Ab

/-! ## The same values under other names -/

/-- A cell that stands for itself whatever is frozen. -/
def hard : Value → Bool
  | .bool _ | .int _ _ | .string _ | .nilFunc | .pointer none | .slice none 0 0 => true
  | .iface 0 (.agg cs) => cs.size == 0
  | _ => false

theorem hard_inert {v : Value} (h : hard v = true) : inert v = true := by
  unfold hard at h
  split at h <;> first | rfl | cases h

/-- The same value under other names; what has none fits p. -/
inductive RN (p : Value → Bool) (π : Nat → Option Nat) : Value → Value → Prop where
  | inert (v : Value) : p v = true → RN p π v v
  | ptr (n n' o : Nat) : π n = some n' → RN p π (.pointer (some ⟨n, o, none⟩)) (.pointer (some ⟨n', o, none⟩))
  | sl (n n' o len cap : Nat) : π n = some n' → RN p π (.slice (some ⟨n, o, none⟩) len cap) (.slice (some ⟨n', o, none⟩) len cap)
  | func (fn : Fn) (a a' b b' : Array Value) : a.size = a'.size → (∀ (i : Nat) x y, a[i]? = some x → a'[i]? = some y → RN p π x y) →
      b.size = b'.size → (∀ (i : Nat) x y, b[i]? = some x → b'[i]? = some y → RN p π x y) → RN p π (.func fn a b) (.func fn a' b')
  | agg (a a' : Array Value) : a.size = a'.size → (∀ (i : Nat) x y, a[i]? = some x → a'[i]? = some y → RN p π x y) → RN p π (.agg a) (.agg a')
  | tuple (a a' : Array Value) : a.size = a'.size → (∀ (i : Nat) x y, a[i]? = some x → a'[i]? = some y → RN p π x y) → RN p π (.tuple a) (.tuple a')

def RNL (p : Value → Bool) (π : Nat → Option Nat) (xs ys : List Value) : Prop := xs.length = ys.length ∧ ∀ (i : Nat) x y, xs[i]? = some x → ys[i]? = some y → RN p π x y

theorem RNL.nil {p : Value → Bool} {π : Nat → Option Nat} : RNL p π [] [] := ⟨rfl, fun i x y h => by simp at h⟩
theorem RNL.cons {p : Value → Bool} {π : Nat → Option Nat} {x y : Value} {xs ys : List Value} (h : RN p π x y) (t : RNL p π xs ys) : RNL p π (x :: xs) (y :: ys) := by
  refine ⟨by simp [t.1], fun i a b ha hb => ?_⟩
  cases i with
  | zero => simp at ha hb; subst ha; subst hb; exact h
  | succ i => simp at ha hb; exact t.2 i a b ha hb

theorem RNL.leaf {p : Value → Bool} {π : Nat → Option Nat} {xs : List Value} (h : xs.all p = true) : RNL p π xs xs :=
  ⟨rfl, fun i x y hx hy => by rw [hx] at hy; cases hy; exact .inert x (List.all_eq_true.1 h x (List.mem_of_getElem? hx))⟩

mutual
/-- A value under other names. -/
def renV (k : Nat) (p : Value → Bool) (π : Nat → Option Nat) (v : Value) : Option Value :=
  match k with
  | 0 => none
  | k + 1 => match v with
    | .bool b => if p (.bool b) = true then some (.bool b) else none
    | .int q n => if p (.int q n) = true then some (.int q n) else none
    | .string s => if p (.string s) = true then some (.string s) else none
    | .nilFunc => if p .nilFunc = true then some .nilFunc else none
    | .iface n x => if p (.iface n x) = true then some (.iface n x) else none
    | .pointer none => if p (.pointer none) = true then some (.pointer none) else none
    | .slice none 0 0 => if p (.slice none 0 0) = true then some (.slice none 0 0) else none
    | .pointer (some ⟨n, o, none⟩) => match π n with
      | some n' => some (.pointer (some ⟨n', o, none⟩))
      | none => none
    | .slice (some ⟨n, o, none⟩) len cap => match π n with
      | some n' => some (.slice (some ⟨n', o, none⟩) len cap)
      | none => none
    | .agg cs => match renL k p π cs.toList with
      | some xs => some (.agg xs.toArray)
      | none => none
    | .tuple cs => match renL k p π cs.toList with
      | some xs => some (.tuple xs.toArray)
      | none => none
    | .func fn a b => match renL k p π a.toList, renL k p π b.toList with
      | some xs, some ys => some (.func fn xs.toArray ys.toArray)
      | _, _ => none
    | _ => none
def renL (k : Nat) (p : Value → Bool) (π : Nat → Option Nat) (vs : List Value) : Option (List Value) :=
  match k with
  | 0 => none
  | k + 1 => match vs with
    | [] => some []
    | v :: vs => match renV k p π v with
      | none => none
      | some x => match renL k p π vs with
        | none => none
        | some xs => some (x :: xs)
end

theorem RNL.arr {p : Value → Bool} {π : Nat → Option Nat} {a : Array Value} {ys : List Value} (h : RNL p π a.toList ys) : a.size = ys.toArray.size ∧ ∀ (i : Nat) x y, a[i]? = some x → ys.toArray[i]? = some y → RN p π x y :=
  ⟨by have := h.1; simpa using this, fun i x y hx hy => h.2 i x y (by simpa using hx) (by simpa using hy)⟩

theorem ren_sound (p : Value → Bool) (π : Nat → Option Nat) : ∀ (k : Nat), (∀ v v', renV k p π v = some v' → RN p π v v') ∧ (∀ vs vs', renL k p π vs = some vs' → RNL p π vs vs') := by
  intro k
  induction k with
  | zero => exact ⟨fun v v' h => by simp [renV] at h, fun v v' h => by simp [renL] at h⟩
  | succ k ih =>
    constructor
    · intro v v' h
      unfold renV at h
      split at h
      any_goals (first | (split at h; exact (Option.some.inj h) ▸ .inert _ ‹_›; cases h; done) | skip)
      · split at h
        · cases h; exact .ptr _ _ _ ‹_›
        · cases h
      · split at h
        · cases h; exact .sl _ _ _ _ _ ‹_›
        · cases h
      · split at h
        · rename_i hx
          cases h
          have := (ih.2 _ _ hx).arr
          exact .agg _ _ this.1 this.2
        · cases h
      · split at h
        · rename_i hx
          cases h
          have := (ih.2 _ _ hx).arr
          exact .tuple _ _ this.1 this.2
        · cases h
      · split at h
        · rename_i hx hy
          cases h
          have h1 := (ih.2 _ _ hx).arr
          have h2 := (ih.2 _ _ hy).arr
          exact .func _ _ _ _ _ h1.1 h1.2 h2.1 h2.2
        · cases h
      · cases h
    · intro vs vs' h
      unfold renL at h
      split at h
      · cases h; exact .nil
      · split at h
        · cases h
        · rename_i hx
          split at h
          · cases h
          · rename_i hxs
            cases h
            exact .cons (ih.1 _ _ hx) (ih.2 _ _ hxs)

theorem renV_sound {p : Value → Bool} {π : Nat → Option Nat} {k : Nat} {v v' : Value} (h : renV k p π v = some v') : RN p π v v' := (ren_sound p π k).1 v v' h
theorem renL_sound {p : Value → Bool} {π : Nat → Option Nat} {k : Nat} {v v' : List Value} (h : renL k p π v = some v') : RNL p π v v' := (ren_sound p π k).2 v v' h

/-- Back: what the renamed value stands for, the value stands for. -/
theorem RN.back {p : Value → Bool} {π : Nat → Option Nat} {ι ι0 : Emb} (hp : ∀ v, p v = true → Ab.inert v = true) (hfz : ι0.fz = ι.fz) (hl : ∀ n n' l, π n = some n' → ι n' = some l → ι0 n = some l) {v0 v : Value} (h : RN p π v0 v) : ∀ v', VR ι v v' → VR ι0 v0 v' := by
  induction h with
  | inert v hv => exact fun v' r => VR.inert hfz r (hp v hv)
  | ptr n n' o hn =>
    intro v' r
    cases r with
    | ptr _ _ l h1 => exact .ptr n o l (hl _ _ _ hn h1)
  | sl n n' o len cap hn =>
    intro v' r
    cases r with
    | sl _ _ _ _ l off ccap h1 h2 h3 h4 h5 => exact .sl n o len cap l off ccap (hl _ _ _ hn h1) h2 h3 h4 h5
  | func fn a a' b b' h1 _ h2 _ ih1 ih2 =>
    intro v' r
    cases r with
    | func _ _ c _ d q1 q2 q3 q4 =>
      refine .func fn a c b d (h1.trans q1) (fun i x y hx hy => ?_) (h2.trans q3) (fun i x y hx hy => ?_)
      · have hi : i < a'.size := by rw [← h1]; exact (Array.getElem?_eq_some_iff.1 hx).1
        exact ih1 i x _ hx (Array.getElem?_eq_getElem hi) y (q2 i _ y (Array.getElem?_eq_getElem hi) hy)
      · have hi : i < b'.size := by rw [← h2]; exact (Array.getElem?_eq_some_iff.1 hx).1
        exact ih2 i x _ hx (Array.getElem?_eq_getElem hi) y (q4 i _ y (Array.getElem?_eq_getElem hi) hy)
  | agg a a' h1 _ ih =>
    intro v' r
    cases r with
    | agg _ c q1 q2 =>
      refine .agg a c (h1.trans q1) (fun i x y hx hy => ?_)
      have hi : i < a'.size := by rw [← h1]; exact (Array.getElem?_eq_some_iff.1 hx).1
      exact ih i x _ hx (Array.getElem?_eq_getElem hi) y (q2 i _ y (Array.getElem?_eq_getElem hi) hy)
  | tuple a a' h1 _ ih =>
    intro v' r
    cases r with
    | tuple _ c q1 q2 =>
      refine .tuple a c (h1.trans q1) (fun i x y hx hy => ?_)
      have hi : i < a'.size := by rw [← h1]; exact (Array.getElem?_eq_some_iff.1 hx).1
      exact ih i x _ hx (Array.getElem?_eq_getElem hi) y (q2 i _ y (Array.getElem?_eq_getElem hi) hy)

theorem RNL.back {p : Value → Bool} {π : Nat → Option Nat} {ι ι0 : Emb} (hp : ∀ v, p v = true → Ab.inert v = true) (hfz : ι0.fz = ι.fz) (hl : ∀ n n' l, π n = some n' → ι n' = some l → ι0 n = some l) {v0 v v' : List Value} (h : RNL p π v0 v) (r : VRL ι v v') : VRL ι0 v0 v' := by
  refine ⟨h.1.trans r.1, fun i x y hx hy => ?_⟩
  have hi : i < v.length := by rw [← h.1]; exact (List.getElem?_eq_some_iff.1 hx).1
  exact (h.2 i x _ hx (List.getElem?_eq_getElem hi)).back hp hfz hl y (r.2 i _ y (List.getElem?_eq_getElem hi) hy)

def Emb.via (ι : Emb) (π : Nat → Option Nat) : Emb := { ι with loc := fun n => (π n).bind ι.loc }

/-- A block under other names. -/
structure SB (p : Value → Bool) (π : Nat → Option Nat) (b0 b : Blk) : Prop where
  es : b.es = b0.es
  own : b.own = b0.own
  live : b.live = b0.live
  cells : b0.live = true → RNL p π b0.cells b.cells

/-- The first memory lies in the second. -/
structure SimM (p : Value → Bool) (π : Nat → Option Nat) (m0 m : Mem) : Prop where
  inj : ∀ a b c, π a = some c → π b = some c → a = b
  dom : ∀ n n', π n = some n' → n < m0.length
  blk : ∀ n n' b0, m0[n]? = some b0 → π n = some n' → ∃ b, m[n']? = some b ∧ SB p π b0 b

theorem RN.flat {p : Value → Bool} {π : Nat → Option Nat} {v0 v : Value} (h : RN p π v0 v) : Ab.flat v0 = Ab.flat v := by
  cases h <;> rfl

theorem SimM.rep {B : Nat} {ι : Emb} {m0 m : Mem} {w : World} {p : Value → Bool} {π : Nat → Option Nat} (hp : ∀ v, p v = true → Ab.inert v = true) (S : SimM p π m0 m) (R : Rep B ι m w) : Rep B (ι.via π) m0 w := by
  have look : ∀ n l b0, (π n).bind ι.loc = some l → m0[n]? = some b0 → ∃ n' b, π n = some n' ∧ ι n' = some l ∧ m[n']? = some b ∧ SB p π b0 b := by
    intro n l b0 h1 h2
    rw [Option.bind_eq_some_iff] at h1
    obtain ⟨n', h3, h4⟩ := h1
    obtain ⟨b, h5, h6⟩ := S.blk n n' b0 h2 h3
    exact ⟨n', b, h3, h4, h5, h6⟩
  refine ⟨?_, ?_, ?_, ?_, R.frozen, ?_, ?_⟩
  · intro n l b0 h1 h2 h3
    obtain ⟨n', b, p, h4, h5, s⟩ := look n l b0 h1 h2
    have M := R.cells n' l b h4 h5 (by rw [s.live]; exact h3)
    obtain ⟨c, e, z, m1, m2, m3, m4, m5⟩ := M.ex
    have hc := s.cells h3
    refine ⟨⟨c, e, z, m1, m2, by rw [hc.1]; exact m3, fun i x hx => ?_, fun ho => m5 (by rw [s.own]; exact ho)⟩, ?_⟩
    · have hi : i < b.cells.length := by rw [← hc.1]; exact (List.getElem?_eq_some_iff.1 hx).1
      obtain ⟨v', t1, t2⟩ := m4 i _ (List.getElem?_eq_getElem hi)
      exact ⟨v', t1, (hc.2 i x _ hx (List.getElem?_eq_getElem hi)).back (ι := ι) (ι0 := ι.via π) hp rfl (fun n n' l q1 q2 => by show (π n).bind ι.loc = some l; rw [q1]; exact q2) v' t2⟩
    · have hf := M.flat
      rw [List.all_eq_true] at hf ⊢
      intro x hx
      obtain ⟨i, hi, rfl⟩ := List.getElem_of_mem hx
      have hi' : i < b.cells.length := by rw [← hc.1]; exact hi
      rw [(hc.2 i _ _ (List.getElem?_eq_getElem hi) (List.getElem?_eq_getElem hi')).flat]
      exact hf _ (List.getElem_mem hi')
  · intro n n2 l l2 b b2 hne h1 h2 h3 h4 h5 h6 h7
    obtain ⟨n', c, p, q1, q2, s⟩ := look n l b h1 h3
    obtain ⟨n2', c2, p2, q12, q22, s2⟩ := look n2 l2 b2 h2 h4
    exact R.apart n' n2' l l2 c c2 (fun e => by subst e; exact hne (S.inj _ _ _ p p2)) q1 q12 q2 q22 (by rw [s.live]; exact h5) (by rw [s2.live]; exact h6) (by rw [s.own]; exact h7)
  · intro n l b h1 h2 h3 h4
    obtain ⟨n', c, p, q1, q2, s⟩ := look n l b h1 h2
    exact R.base n' l c q1 q2 (by rw [s.live]; exact h3) (by rw [s.own]; exact h4)
  · intro n l b h1 h2
    obtain ⟨n', c, p, q1, q2, s⟩ := look n l b h1 h2
    rw [← s.es]
    exact R.es n' l c q1 q2
  · intro n l b h1 h2 h3 h4
    obtain ⟨n', c, p, q1, q2, s⟩ := look n l b h1 h2
    exact R.cold n' l c q1 q2 (by rw [s.live]; exact h3) (by rw [s.own]; exact h4)
  · intro n l b h1 h2 h3 h4
    obtain ⟨n', c, p, q1, q2, s⟩ := look n l b h1 h2
    exact R.kept n' l c q1 q2 (by rw [s.live]; exact h3) (by rw [s.own]; exact h4)

section
variable {C : Cfg} {k : Nat} {fn : Func} {todo : List Item} {T T0 : Tm} {m m0 m' : Mem} {v : Value}

/-- The temporaries that are still needed. -/
def SimT (p : Value → Bool) (π : Nat → Option Nat) (T : Tm) : Tm → Prop
  | [] => True
  | (t, v0) :: r => (∃ v, T.lookup t = some v ∧ RN p π v0 v) ∧ SimT p π T r

theorem SimT.get {p : Value → Bool} {π : Nat → Option Nat} : ∀ {T0 : Tm}, SimT p π T T0 → ∀ t v0, T0.lookup t = some v0 → ∃ v, T.lookup t = some v ∧ RN p π v0 v
  | [], _, t, v0, h => by simp at h
  | (t1, v1) :: r, hs, t, v0, h => by
    rw [List.lookup_cons] at h
    by_cases e : t = t1
    · subst e
      simp at h
      subst h
      exact hs.1
    · have : (t == t1) = false := by simpa using e
      rw [this] at h
      exact hs.2.get t v0 h

/-- The entry blocks stay where they are, and are where they should be. -/
def Entry (k : Nat) (π : Nat → Option Nat) (T : Tm) (m0 m : Mem) : Prop :=
  ∀ n, n < k → π n = some n ∧ (m0[n]? = m[n]? ∨ ∃ t o, T.lookup t = some (.pointer (some ⟨n, o, none⟩)))

theorem Entry.zero {π : Nat → Option Nat} : Entry 0 π T m0 m := fun n h => by omega

/-- A run may go on with other names, and without what is not needed any more. -/
theorem Run.norm (π : Nat → Option Nat) (hT : SimT inert π T T0) (S : SimM inert π m0 m) (hE : Entry k π T m0 m) (hG : C.G ≤ k) (h : Run C k fn todo T0 m0 v m') : Run C k fn todo T m v m' := by
  intro B ι w a b cs R hGl hB hTR ht hk hN hd
  have look : ∀ n l, (π n).bind ι.loc = some l → ∃ n', π n = some n' ∧ ι n' = some l := by
    intro n l h1
    rw [Option.bind_eq_some_iff] at h1
    exact h1
  have ent : ∀ n, n < k → (π n).bind ι.loc = ι n := fun n hn => by rw [(hE n hn).1]; rfl
  have hk0 : k ≤ m0.length := by
    rcases Nat.eq_zero_or_pos k with h0 | h0
    · omega
    · have := S.dom (k - 1) (k - 1) (hE (k - 1) (by omega)).1
      omega
  have own : ∀ {n l b0}, (π n).bind ι.loc = some l → m0[n]? = some b0 → b0.live = true → b0.own = true → ∃ n' b, ι n' = some l ∧ m[n']? = some b ∧ b.live = true ∧ b.own = true := by
    intro n l b0 h1 h2 h3 h4
    obtain ⟨n', h5, h6⟩ := look n l h1
    obtain ⟨b, h7, s⟩ := S.blk n n' b0 h2 h5
    exact ⟨n', b, h6, h7, by rw [s.live]; exact h3, by rw [s.own]; exact h4⟩
  obtain ⟨w', fr, ι', v', q1, q2, q3, q4, q5, q6, A, q8⟩ := h B (ι.via π) w a b cs (SimM.rep (fun _ h => h) S R) (by
      intro g hg
      obtain ⟨l, h1, h2⟩ := hGl g hg
      exact ⟨l, by show (π g).bind ι.loc = some l; rw [ent g (by omega)]; exact h1, h2⟩) hB (by
      intro t v0 h1
      obtain ⟨v1, h2, h3⟩ := hT.get t v0 h1
      obtain ⟨v', h4, h5⟩ := hTR t v1 h2
      exact ⟨v', h4, h3.back (ι := ι) (ι0 := ι.via π) (fun _ h => h) rfl (fun n n' l q1 q2 => by show (π n).bind ι.loc = some l; rw [q1]; exact q2) v' h5⟩) (by
      intro n hn
      show (π n).bind ι.loc = none
      cases hp : π n with
      | none => rfl
      | some n' => have := S.dom n n' hp; omega) hk0 hN hd
  refine ⟨w', fr, ι', v', q1, q2, q3, q4, q5, q6, ?_, q8⟩
  refine { len := A.len, keep := fun n hn => by rw [A.keep n hn]; exact ent n hn, tight := A.tight, rep := A.rep, frame := ?_, origin := ?_, alive := ?_, fz := A.fz, ice := ?_, unreal := ?_, os := A.os, tape := A.tape, output := A.output, size := A.size }
  · intro g hg hn
    refine A.frame g hg fun n l b0 h1 h2 h3 h4 => ?_
    obtain ⟨n', b, e1, e2, e3, e4⟩ := own h1 h2 h3 h4
    exact hn n' l b e1 e2 e3 e4
  · intro n l b h1 h2 h3 h4
    rcases A.origin n l b h1 h2 h3 h4 with h | ⟨j, l0, b0, a1, a2, a3, a4, a5⟩ | ⟨j, l0, b0, a0, a1, a2, a3, a5⟩
    · exact .inl h
    · obtain ⟨n', c, e1, e2, e3, e4⟩ := own a1 a2 a3 a4
      exact .inr (.inl ⟨n', l0, c, e1, e2, e3, e4, a5⟩)
    · obtain ⟨j', h5, h6⟩ := look j l0 a1
      obtain ⟨c, h7, s⟩ := S.blk j j' b0 a2 h5
      refine .inr (.inr ⟨j', l0, c, ?_, h6, h7, by rw [s.live]; exact a3, a5⟩)
      rcases Nat.lt_or_ge j' k with hj | hj
      · have := S.inj j j' j' h5 (hE j' hj).1
        omega
      · exact hj
  · intro n b' hn hb
    obtain ⟨b0, h1, h2, h3, h4⟩ := A.alive n b' hn hb
    obtain ⟨c, h5, s⟩ := S.blk n n b0 h1 (hE n hn).1
    exact ⟨c, h5, h2.trans s.es.symm, fun h => by rw [s.own]; exact h3 h, fun h => by rw [s.live]; exact h4 h⟩
  · intro g hg
    rcases A.ice g hg with h | h | ⟨n, l, b0, a1, a2, a3, a4, a5⟩
    · exact .inl h
    · exact .inr (.inl h)
    · obtain ⟨n', c, e1, e2, e3, e4⟩ := own a1 a2 a3 a4
      exact .inr (.inr ⟨n', l, c, e1, e2, e3, e4, a5⟩)
  · intro n hn h1
    rw [A.unreal n hn (by rw [← h1]; exact ent n hn)]
    rcases (hE n hn).2 with h2 | ⟨t, o, h2⟩
    · exact h2
    · obtain ⟨v', _, h4⟩ := hTR t _ h2
      cases h4 with
      | ptr _ _ l h5 => rw [h1] at h5; cases h5
end
end Go.Ab
