/- Part of an own evaluator of Go code on numbered blocks, and of the proof that the machine does what it says; each theorem carries its own conditions. -/
import Derived.Test.YtkoahogalplhhaaAb23
set_option linter.unusedVariables false
set_option linter.unusedSimpArgs false
namespace Go.Ab

/-! ## Calls whose answer is the caller's own; calls that write -/

theorem VR.hard {ι ι' : Emb} {v v' : Value} (r : VR ι v v') (h : Ab.hard v = true) : VR ι' v v' := by
  cases r with
  | bool b => exact .bool b
  | int k n => exact .int k n
  | string s => exact .string s
  | nilFunc => exact .nilFunc
  | ptrNil => exact .ptrNil
  | ptr n o l h1 => simp [Ab.hard] at h
  | slNil a ha => exact .slNil a ha
  | sl n o len acap l off ccap h1 h2 h3 h4 h5 => simp [Ab.hard] at h
  | ro len cs g off ccap c h1 h2 h3 h4 h5 =>
    cases len with
    | zero =>
      have h0 : cs.size = 0 := by simpa [Ab.hard] using h
      obtain rfl : cs = #[] := Array.eq_empty_of_size_eq_zero h0
      exact .ro0 _ _ (.some _ _)
    | succ n => simp [Ab.hard] at h
  | ro0 a ccap ha => exact .ro0 a ccap ha
  | rop cs g off c h1 h2 h3 h4 => simp [Ab.hard] at h
  | func fn a a' b b' h1 h2 h3 h4 => simp [Ab.hard] at h
  | agg a a' h1 h2 => simp [Ab.hard] at h
  | tuple a a' h1 h2 => simp [Ab.hard] at h

/-- Forth: what the value stands for, the renamed value stands for. -/
theorem RN.forth {p : Value → Bool} {π : Nat → Option Nat} {ι ι0 : Emb} (hp : ∀ v v', p v = true → VR ι0 v v' → VR ι v v') (hl : ∀ n n' l, π n = some n' → ι0 n = some l → ι n' = some l) {v0 v : Value} (h : RN p π v0 v) : ∀ v', VR ι0 v0 v' → VR ι v v' := by
  induction h with
  | inert v hv => exact fun v' r => hp v v' hv r
  | ptr n n' o hn =>
    intro v' r
    cases r with
    | ptr _ _ l h1 => exact .ptr n' o l (hl _ _ _ hn h1)
  | sl n n' o len cap hn =>
    intro v' r
    cases r with
    | sl _ _ _ _ l off ccap h1 h2 h3 h4 h5 => exact .sl n' o len cap l off ccap (hl _ _ _ hn h1) h2 h3 h4 h5
  | func fn a a' b b' h1 _ h2 _ ih1 ih2 =>
    intro v' r
    cases r with
    | func _ _ c _ d q1 q2 q3 q4 =>
      refine .func fn a' c b' d (h1.symm.trans q1) (fun i x y hx hy => ?_) (h2.symm.trans q3) (fun i x y hx hy => ?_)
      · have hi : i < a.size := by rw [h1]; exact (Array.getElem?_eq_some_iff.1 hx).1
        exact ih1 i _ x (Array.getElem?_eq_getElem hi) hx y (q2 i _ y (Array.getElem?_eq_getElem hi) hy)
      · have hi : i < b.size := by rw [h2]; exact (Array.getElem?_eq_some_iff.1 hx).1
        exact ih2 i _ x (Array.getElem?_eq_getElem hi) hx y (q4 i _ y (Array.getElem?_eq_getElem hi) hy)
  | agg a a' h1 _ ih =>
    intro v' r
    cases r with
    | agg _ c q1 q2 =>
      refine .agg a' c (h1.symm.trans q1) (fun i x y hx hy => ?_)
      have hi : i < a.size := by rw [h1]; exact (Array.getElem?_eq_some_iff.1 hx).1
      exact ih i _ x (Array.getElem?_eq_getElem hi) hx y (q2 i _ y (Array.getElem?_eq_getElem hi) hy)
  | tuple a a' h1 _ ih =>
    intro v' r
    cases r with
    | tuple _ c q1 q2 =>
      refine .tuple a' c (h1.symm.trans q1) (fun i x y hx hy => ?_)
      have hi : i < a.size := by rw [h1]; exact (Array.getElem?_eq_some_iff.1 hx).1
      exact ih i _ x (Array.getElem?_eq_getElem hi) hx y (q2 i _ y (Array.getElem?_eq_getElem hi) hy)

theorem Match.forth {p : Value → Bool} {π : Nat → Option Nat} {ι ι0 : Emb} {b0 b : Blk} {l : Loc} {w : World} (hp : ∀ v v', p v = true → VR ι0 v v' → VR ι v v') (hl : ∀ n n' l, π n = some n' → ι0 n = some l → ι n' = some l) (s : SB p π b0 b) (hlive : b0.live = true) (M : Match ι0 b0 l w) : Match ι b l w := by
  obtain ⟨c, e, z, m1, m2, m3, m4, m5⟩ := M.ex
  have hc := s.cells hlive
  refine ⟨⟨c, e, z, m1, m2, by rw [← hc.1]; exact m3, fun i x hx => ?_, fun ho => m5 (by rw [← s.own]; exact ho)⟩, ?_⟩
  · have hi : i < b0.cells.length := by rw [hc.1]; exact (List.getElem?_eq_some_iff.1 hx).1
    obtain ⟨v', t1, t2⟩ := m4 i _ (List.getElem?_eq_getElem hi)
    exact ⟨v', t1, (hc.2 i _ x (List.getElem?_eq_getElem hi) hx).forth hp hl v' t2⟩
  · have hf := M.flat
    rw [List.all_eq_true] at hf ⊢
    intro x hx
    obtain ⟨i, hi, rfl⟩ := List.getElem_of_mem hx
    have hi' : i < b0.cells.length := by rw [hc.1]; exact hi
    rw [← (hc.2 i _ _ (List.getElem?_eq_getElem hi') (List.getElem?_eq_getElem hi)).flat]
    exact hf _ (List.getElem_mem hi')

section
variable {C : Cfg} {f : FuncId} {args as : List Value} {m m2 : Mem} {v v0 : Value} {ns : List Nat}

/-- The answer's blocks become the caller's. -/
def OwnL (π : Nat → Option Nat) (m2 : Mem) : List Nat → List Blk → Prop
  | [], [] => True
  | n :: ns, b :: bs => (∃ b2, m2[n]? = some b2 ∧ b2.live = true ∧ b2.own = true ∧ SB hard π b2 b) ∧ OwnL π m2 ns bs
  | _, _ => False

theorem OwnL.get {π : Nat → Option Nat} : ∀ {ns : List Nat} {bs : List Blk}, OwnL π m2 ns bs → ns.length = bs.length ∧ ∀ (i : Nat) b, bs[i]? = some b → ∃ n b2, ns[i]? = some n ∧ m2[n]? = some b2 ∧ b2.live = true ∧ b2.own = true ∧ SB hard π b2 b
  | [], [], _ => ⟨rfl, fun i b h => by simp at h⟩
  | n :: ns, b :: bs, h => by
    obtain ⟨⟨b2, h1, h2, h3, h4⟩, ht⟩ := h
    have := ht.get
    refine ⟨by simp [this.1], fun i x hx => ?_⟩
    cases i with
    | zero => simp at hx; subst hx; exact ⟨n, b2, rfl, h1, h2, h3, h4⟩
    | succ i => simp at hx; exact this.2 i x hx
  | [], _ :: _, h => h.elim
  | _ :: _, [], h => h.elim

/-- Where the answer's blocks come to lie. -/
def place (N : Nat) (ns : List Nat) : Nat → Option Nat := fun n => (ns.idxOf? n).map (· + N)

theorem place_some {N : Nat} {ns : List Nat} {n n' : Nat} (h : place N ns n = some n') : ∃ i, ns[i]? = some n ∧ n' = i + N := by
  unfold place at h
  cases hi : ns.idxOf? n with
  | none => rw [hi] at h; cases h
  | some i =>
    rw [hi] at h
    cases h
    refine ⟨i, ?_, rfl⟩
    rw [List.idxOf?_eq_some_iff] at hi
    obtain ⟨h1, h2, _⟩ := hi
    rw [List.getElem?_eq_getElem h1, h2]

theorem Con.own (h : Con C f as (m.take C.G) v0 m2) (has : mapF (frz 64 m) args = some (as, ns)) (hGm : C.G ≤ m.length) (hglob : (m.take C.G).all (fun b => !b.own && b.cells.all inert) = true)
    (ns3 : List Nat) (blks : List Blk) (hnd : ns3.Nodup) (hb : OwnL (place m.length ns3) m2 ns3 blks) (hv : RN hard (place m.length ns3) v0 v) : Con C f args m v (m ++ blks) := by
  have hgrow : Grow m (m ++ blks) := ⟨by simp, fun k b hk => ⟨b, by rw [List.getElem?_append_left (List.getElem?_eq_some_iff.1 hk).1]; exact hk, rfl, id, id⟩⟩
  refine ⟨hgrow, h.ok, fun B ι w args' R hG hB hargs hF => ?_⟩
  obtain ⟨S, hown, hcall⟩ := h.inner has hGm hglob R hG hB hargs
  refine hcall.mono ?_
  rintro e w' ⟨v1, ι1, rfl, A, r⟩
  have own2 : ∀ {n l b}, ι1 n = some l → m2[n]? = some b → b.live = true → b.own = true → w.heap.size ≤ l.g := by
    intro n l b h1 h2 h3 h4
    rcases Nat.lt_or_ge n ((sealM m ns).take C.G).length with h | h
    · obtain ⟨b0, q1, _, q2, _⟩ := A.alive n b h h2
      have := hown n b0 q1
      rw [q2 h4] at this
      cases this
    · rcases A.origin n l b h h1 h2 h3 with h' | ⟨k, l0, b0, _, q2, _, q4, _⟩
      · exact h'
      · have := hown k b0 q2
        rw [q4] at this
        cases this
  have frame : ∀ g, g < w.heap.size → w'.heap[g]? = w.heap[g]? := fun g h => A.frame g h fun n l b _ q2 _ q4 => by
    have := hown n b q2
    rw [q4] at this
    cases this
  obtain ⟨hlen, hget⟩ := hb.get
  let ι2 : Emb := { ι with loc := fun n => if n < m.length then ι n else match ns3[n - m.length]? with
    | some k => ι1 k
    | none => ι n }
  have loc0 : ∀ {n}, n < m.length → ι2 n = ι n := fun h => if_pos h
  have loc1 : ∀ {i k}, ns3[i]? = some k → ι2 (i + m.length) = ι1 k := by
    intro i k h
    show (if i + m.length < m.length then _ else match ns3[i + m.length - m.length]? with
      | some k => ι1 k
      | none => ι (i + m.length)) = _
    rw [if_neg (by omega), Nat.add_sub_cancel, h]
  have blk : ∀ {n b}, (m ++ blks)[n]? = some b → (n < m.length ∧ m[n]? = some b) ∨ ∃ i k b2, n = i + m.length ∧ ns3[i]? = some k ∧ m2[k]? = some b2 ∧ b2.live = true ∧ b2.own = true ∧ SB hard (place m.length ns3) b2 b := by
    intro n b h
    rcases Nat.lt_or_ge n m.length with hn | hn
    · rw [List.getElem?_append_left hn] at h
      exact .inl ⟨hn, h⟩
    · rw [List.getElem?_append_right hn] at h
      obtain ⟨k, b2, h1, h2, h3, h4, h5⟩ := hget _ b h
      exact .inr ⟨n - m.length, k, b2, by omega, h1, h2, h3, h4, h5⟩
  have hl : ∀ n n' l, place m.length ns3 n = some n' → ι1 n = some l → ι2 n' = some l := by
    intro n n' l h1 h2
    obtain ⟨i, h3, rfl⟩ := place_some h1
    rw [loc1 h3]
    exact h2
  have hle : ι.le ι2 := by
    refine ⟨fun n l h => ?_, fun _ _ h => h⟩
    rcases Nat.lt_or_ge n m.length with hn | hn
    · rw [loc0 hn]; exact h
    · show (if n < m.length then _ else match ns3[n - m.length]? with
        | some k => ι1 k
        | none => ι n) = some l
      rw [if_neg (by omega)]
      split
      · rename_i k hk
        have : n < (m ++ blks).length := by
          have := (List.getElem?_eq_some_iff.1 hk).1
          simp
          omega
        rw [hF n hn this] at h
        cases h
      · exact h
  have hsz : ∀ {n l b}, ι n = some l → m[n]? = some b → b.live = true → l.g < w.heap.size := fun h1 h2 h3 => (R.cells _ _ _ h1 h2 h3).lt
  refine ⟨v1, ι2, rfl, ?_, hv.forth (fun v v' h r => r.hard h) hl v1 r⟩
  refine { len := hgrow.len, keep := ?_, rep := ⟨?_, ?_, ?_, ?_, ?_, ?_, ?_⟩, frame := fun g h _ => frame g h, origin := ?_, alive := ?_, fz := fun _ _ h => h, ice := fun g h => .inl h, unreal := ?_, os := A.os, tape := A.tape, output := A.output, size := A.size }
  · intro n hn
    rcases hn with hn | hn
    · exact loc0 hn
    · have h0 : ns3[n - m.length]? = none := by
        rw [List.getElem?_eq_none_iff, hlen]
        simp at hn
        omega
      show (if n < m.length then _ else match ns3[n - m.length]? with
        | some k => ι1 k
        | none => ι n) = ι n
      rw [h0]
      split <;> rfl
  · intro n l b h1 h2 h3
    rcases blk h2 with ⟨hn, h4⟩ | ⟨i, k, b2, rfl, h4, h5, h6, h7, s⟩
    · rw [loc0 hn] at h1
      have M := R.cells n l b h1 h4 h3
      exact (M.mono hle).heap (frame _ M.lt)
    · rw [loc1 h4] at h1
      exact (A.rep.cells k l b2 h1 h5 h6).forth (fun v v' h r => r.hard h) hl s h6
  · intro n n' l l' b b' hne h1 h2 h3 h4 h5 h6 h7
    rcases blk h3 with ⟨hn, e1⟩ | ⟨i, k, b2, rfl, e1, e2, e3, e4, s⟩ <;> rcases blk h4 with ⟨hn', e1'⟩ | ⟨i', k', b2', rfl, e1', e2', e3', e4', s'⟩
    · rw [loc0 hn] at h1
      rw [loc0 hn'] at h2
      exact R.apart n n' l l' b b' hne h1 h2 e1 e1' h5 h6 h7
    · rw [loc0 hn] at h1
      rw [loc1 e1'] at h2
      have := own2 h2 e2' e3' e4'
      have := hsz h1 e1 h5
      omega
    · rw [loc1 e1] at h1
      rw [loc0 hn'] at h2
      have := own2 h1 e2 e3 e4
      have := hsz h2 e1' h6
      omega
    · rw [loc1 e1] at h1
      rw [loc1 e1'] at h2
      refine A.rep.apart k k' l l' b2 b2' (fun hk => hne ?_) h1 h2 e2 e2' e3 e3' e4
      subst hk
      have a1 := List.getElem?_eq_some_iff.1 e1
      have a2 := List.getElem?_eq_some_iff.1 e1'
      have := (List.getElem_inj hnd (h₀ := a1.1) (h₁ := a2.1)).1 (a1.2.trans a2.2.symm)
      omega
  · intro n l b h1 h2 h3 h4
    rcases blk h2 with ⟨hn, e1⟩ | ⟨i, k, b2, rfl, e1, e2, e3, e4, s⟩
    · rw [loc0 hn] at h1
      exact R.base n l b h1 e1 h3 h4
    · rw [loc1 e1] at h1
      exact Nat.le_trans hB (own2 h1 e2 e3 e4)
  · intro n l b h1 h2
    rcases blk h2 with ⟨hn, e1⟩ | ⟨i, k, b2, rfl, e1, e2, e3, e4, s⟩
    · rw [loc0 hn] at h1
      exact R.es n l b h1 e1
    · rw [loc1 e1] at h1
      rw [s.es]
      exact A.rep.es k l b2 h1 e2
  · intro g c h
    obtain ⟨e, z, hz⟩ := R.frozen g c h
    exact ⟨e, z, by rw [frame g (Array.getElem?_eq_some_iff.1 hz).1]; exact hz⟩
  · intro n l b h1 h2 h3 h4
    rcases blk h2 with ⟨hn, e1⟩ | ⟨i, k, b2, rfl, e1, e2, e3, e4, s⟩
    · rw [loc0 hn] at h1
      exact R.cold n l b h1 e1 h3 h4
    · rw [loc1 e1] at h1
      have h0 := own2 h1 e2 e3 e4
      show ι.fz l.g = none
      cases hc : ι.fz l.g with
      | none => rfl
      | some c =>
        obtain ⟨e, z, hz⟩ := R.frozen _ c hc
        have := (Array.getElem?_eq_some_iff.1 hz).1
        omega
  · intro n l b h1 h2 h3 h4
    rcases blk h2 with ⟨hn, e1⟩ | ⟨i, k, b2, rfl, e1, e2, e3, e4, s⟩
    · rw [loc0 hn] at h1
      exact R.kept n l b h1 e1 h3 h4
    · rw [s.own, e4] at h4
      cases h4
  · intro n l b hn h1 h2 h3
    rcases blk h2 with ⟨hn', e1⟩ | ⟨i, k, b2, rfl, e1, e2, e3, e4, s⟩
    · omega
    · rw [loc1 e1] at h1
      exact .inl (own2 h1 e2 e3 e4)
  · intro n b hn h1
    rw [List.getElem?_append_left hn] at h1
    exact ⟨b, h1, rfl, id, id⟩
  · intro n hn _
    rw [List.getElem?_append_left hn]
end
end Go.Ab
