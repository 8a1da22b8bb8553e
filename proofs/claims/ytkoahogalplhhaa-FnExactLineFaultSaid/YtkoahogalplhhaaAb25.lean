/- Part of an own evaluator of Go code on numbered blocks, and of the proof that the machine does what it says; each theorem carries its own conditions. -/
import Derived.Test.YtkoahogalplhhaaAb24
set_option linter.unusedVariables false
set_option linter.unusedSimpArgs false
namespace Go.Ab

section
variable {C : Cfg} {f : FuncId} {args args0 : List Value} {m m0 m0' m' : Mem} {v v0 : Value} {π : Nat → Option Nat}

/-- The value leads to the block. -/
def pts (v : Value) (n : Nat) : Prop := (∃ o, v = .pointer (some ⟨n, o, none⟩)) ∨ ∃ o len cap, v = .slice (some ⟨n, o, none⟩) len cap

/-- The block is reached from the arguments: it is there. -/
inductive Real (m : Mem) (args : List Value) : Nat → Prop where
  | arg (i : Nat) (v : Value) (n : Nat) : args[i]? = some v → pts v n → Real m args n
  | part (i j : Nat) (cs : Array Value) (v : Value) (n : Nat) : args[i]? = some (.agg cs) → cs[j]? = some v → pts v n → Real m args n
  | cell (k : Nat) (b : Blk) (i : Nat) (v : Value) (n : Nat) : Real m args k → m[k]? = some b → b.live = true → b.cells[i]? = some v → pts v n → Real m args n

theorem pts_real {ι : Emb} {v v' : Value} {n : Nat} (h : pts v n) (r : VR ι v v') : ∃ l, ι n = some l := by
  rcases h with ⟨o, rfl⟩ | ⟨o, len, cap, rfl⟩
  · cases r with
    | ptr _ _ l h => exact ⟨l, h⟩
  · cases r with
    | sl _ _ _ _ l _ _ h => exact ⟨l, h⟩

theorem Real.loc {B : Nat} {ι : Emb} {w : World} {args' : List Value} (R : Rep B ι m w) (ha : VRL ι args args') {n : Nat} (h : Real m args n) : ∃ l, ι n = some l := by
  induction h with
  | arg i v n h1 h2 =>
    obtain ⟨y, _, r⟩ := ha.get h1
    exact pts_real h2 r
  | part i j cs v n h1 h2 h3 =>
    obtain ⟨y, _, r⟩ := ha.get h1
    cases r with
    | agg _ c q1 q2 =>
      have hj : j < c.size := by rw [← q1]; exact (Array.getElem?_eq_some_iff.1 h2).1
      exact pts_real h3 (q2 j v _ h2 (Array.getElem?_eq_getElem hj))
  | cell k b i v n _ h1 h2 h3 h4 ih =>
    obtain ⟨l, hl⟩ := ih
    obtain ⟨c, e, z, m1, m2, m3, m4, m5⟩ := (R.cells k l b hl h1 h2).ex
    obtain ⟨v', _, r⟩ := m4 i v h3
    exact pts_real h4 r

/-- Where the blocks lie when a call has made some more. -/
def more (π : Nat → Option Nat) (a b N : Nat) : Nat → Option Nat := fun n => if n < a then π n else if n < b then some (N + (n - a)) else none

theorem VR.fzle {ι ι1 : Emb} (hfz : ∀ g c, ι.fz g = some c → ι1.fz g = some c) {v v' : Value} (r : VR ι v v') (h : Ab.inert v = true) : VR ι1 v v' := by
  have r1 : VR { ι with loc := ι1.loc } v v' := VR.inert (ι := ι) (ι1 := { ι with loc := ι1.loc }) rfl r h
  have hle : Emb.le { ι with loc := ι1.loc } ι1 := ⟨fun _ _ h => h, hfz⟩
  exact r1.mono hle

/-- A call that writes to some of the caller's blocks. -/
theorem Con.frame (h : Con C f args0 m0 v0 m0') (S : SimM inert π m0 m) (hG : ∀ g, g < C.G → π g = some g) (hargs : RNL inert π args0 args)
    (hlen : m'.length = m.length + (m0'.length - m0.length))
    (hout : ∀ n, n < m.length → (∀ k, π k ≠ some n) → m'[n]? = m[n]?)
    (hin : ∀ n n' b0, m0'[n]? = some b0 → more π m0.length m0'.length m.length n = some n' → ∃ b, m'[n']? = some b ∧ SB inert (more π m0.length m0'.length m.length) b0 b)
    (hv : RN inert (more π m0.length m0'.length m.length) v0 v) (hreal : ∀ k n, π k = some n → m'[n]? = m[n]? ∨ Real m args n) : Con C f args m v m' := by
  have hgr := h.1
  have dec : ∀ n : Nat, (∃ k, π k = some n) ∨ ∀ k, π k ≠ some n := fun n => (Classical.em _).imp id fun h k hk => h ⟨k, hk⟩
  have mlo : ∀ {n n'}, π n = some n' → more π m0.length m0'.length m.length n = some n' := by
    intro n n' h1
    unfold more
    rw [if_pos (S.dom n n' h1)]
    exact h1
  have mhi : ∀ {i}, m0.length + i < m0'.length → more π m0.length m0'.length m.length (m0.length + i) = some (m.length + i) := by
    intro i h1
    unfold more
    rw [if_neg (by omega), if_pos h1]
    simp
  have hlen0 := hgr.len
  refine ⟨⟨by omega, fun n b hb => ?_⟩, h.ok, fun B ι w args' R hGl hB hargs' hF => ?_⟩
  · rcases dec n with ⟨k, hk⟩ | hk
    · have hk0 := S.dom k n hk
      obtain ⟨c, h1, s⟩ := S.blk k n _ (List.getElem?_eq_getElem hk0) hk
      rw [hb] at h1
      cases h1
      obtain ⟨b', h2, h3, h4, h5⟩ := hgr.old k _ (List.getElem?_eq_getElem hk0)
      obtain ⟨b'', h6, s'⟩ := hin k n b' h2 (mlo hk)
      exact ⟨b'', h6, by rw [s'.es, h3, s.es], fun h => by rw [s.own]; exact h4 (by rw [← s'.own]; exact h), fun h => by rw [s.live]; exact h5 (by rw [← s'.live]; exact h)⟩
    · refine ⟨b, ?_, rfl, id, id⟩
      rw [hout n (List.getElem?_eq_some_iff.1 hb).1 hk]
      exact hb
  have viaS : ∀ {n l}, (ι.via π) n = some l → ∃ n', π n = some n' ∧ ι n' = some l := fun h1 => by
    have h1 : (π _).bind ι.loc = some _ := h1
    rw [Option.bind_eq_some_iff] at h1
    exact h1
  have own : ∀ {n l b0}, (ι.via π) n = some l → m0[n]? = some b0 → b0.live = true → b0.own = true → ∃ n' b, π n = some n' ∧ ι n' = some l ∧ m[n']? = some b ∧ b.live = true ∧ b.own = true := by
    intro n l b0 h1 h2 h3 h4
    obtain ⟨n', h5, h6⟩ := viaS h1
    obtain ⟨b, h7, s⟩ := S.blk n n' b0 h2 h5
    exact ⟨n', b, h5, h6, h7, by rw [s.live]; exact h3, by rw [s.own]; exact h4⟩
  have hcall := h.2.2 B (ι.via π) w args' (SimM.rep (fun _ h => h) S R) (by
    intro g hg
    obtain ⟨l, h1, h2⟩ := hGl g hg
    exact ⟨l, by show (π g).bind ι.loc = some l; rw [hG g hg]; exact h1, h2⟩) hB
    (hargs.back (ι := ι) (ι0 := ι.via π) (fun _ h => h) rfl (fun n n' l q1 q2 => by show (π n).bind ι.loc = some l; rw [q1]; exact q2) hargs') (by
    intro n h1 h2
    show (π n).bind ι.loc = none
    cases hp : π n with
    | none => rfl
    | some n' => have := S.dom n n' hp; omega)
  refine hcall.mono ?_
  rintro e w' ⟨v1, ι1, rfl, A, r⟩
  let ι2 : Emb := { fz := ι1.fz, loc := fun n => if n < m.length then ι n else if n < m'.length then ι1 (m0.length + (n - m.length)) else ι n }
  have loc0 : ∀ {n}, n < m.length → ι2 n = ι n := fun h => if_pos h
  have loc1 : ∀ {i}, m.length + i < m'.length → ι2 (m.length + i) = ι1 (m0.length + i) := by
    intro i h
    show (if m.length + i < m.length then _ else if m.length + i < m'.length then ι1 (m0.length + (m.length + i - m.length)) else _) = _
    rw [if_neg (by omega), if_pos h]
    congr 2
    omega
  have keep0 : ∀ {n}, n < m0.length → ι1 n = (ι.via π) n := fun h => A.keep _ (.inl h)
  have hle : ι.le ι2 := by
    refine ⟨fun n l h => ?_, fun g c h => A.fz g c h⟩
    show (if n < m.length then ι n else if n < m'.length then ι1 (m0.length + (n - m.length)) else ι n) = some l
    split
    · exact h
    · split
      · rw [hF n (by omega) (by omega)] at h; cases h
      · exact h
  have hl : ∀ n n' l, more π m0.length m0'.length m.length n = some n' → ι1 n = some l → ι2 n' = some l := by
    intro n n' l h1 h2
    unfold more at h1
    split at h1
    · rename_i hn
      rw [keep0 hn] at h2
      obtain ⟨n1, h3, h4⟩ := viaS h2
      rw [h1] at h3
      cases h3
      exact hle.loc _ _ h4
    · split at h1
      · cases h1
        rw [loc1 (by omega)]
        rename_i h3 _
        rw [show m0.length + (n - m0.length) = n by omega]
        exact h2
      · cases h1
  have hp : ∀ v v', Ab.inert v = true → VR ι1 v v' → VR ι2 v v' := fun v v' h r => VR.fzle (ι := ι1) (ι1 := ι2) (fun _ _ h => h) r h
  -- a live block afterwards: one that the call did not see, or one of the call's
  have blk : ∀ {n b l}, m'[n]? = some b → ι2 n = some l → (n < m.length ∧ m[n]? = some b ∧ ι n = some l ∧ ∀ k, π k ≠ some n) ∨ ∃ k b0, more π m0.length m0'.length m.length k = some n ∧ m0'[k]? = some b0 ∧ ι1 k = some l ∧ SB inert (more π m0.length m0'.length m.length) b0 b := by
    intro n b l h1 h2
    have hn := (List.getElem?_eq_some_iff.1 h1).1
    rcases Nat.lt_or_ge n m.length with hm | hm
    · rw [loc0 hm] at h2
      rcases dec n with ⟨k, hk⟩ | hk
      · have hk0 := S.dom k n hk
        have hk1 : k < m0'.length := by omega
        obtain ⟨b', h3, s⟩ := hin k n _ (List.getElem?_eq_getElem hk1) (mlo hk)
        rw [h1] at h3
        cases h3
        refine .inr ⟨k, _, mlo hk, List.getElem?_eq_getElem hk1, ?_, s⟩
        rw [keep0 hk0]
        show (π k).bind ι.loc = some l
        rw [hk]
        exact h2
      · exact .inl ⟨hm, by rw [← hout n hm hk]; exact h1, h2, hk⟩
    · obtain ⟨i, rfl⟩ : ∃ i, n = m.length + i := ⟨n - m.length, by omega⟩
      rw [loc1 hn] at h2
      have hk1 : m0.length + i < m0'.length := by omega
      obtain ⟨b', h3, s⟩ := hin _ _ _ (List.getElem?_eq_getElem hk1) (mhi hk1)
      rw [h1] at h3
      cases h3
      exact .inr ⟨_, _, mhi hk1, List.getElem?_eq_getElem hk1, h2, s⟩
  -- where the call's blocks lie
  have orig : ∀ {k l b0}, ι1 k = some l → m0'[k]? = some b0 → b0.live = true → w.heap.size ≤ l.g ∨ (∃ n b, π k = some n ∧ ι n = some l ∧ m[n]? = some b ∧ b.live = true ∧ (b0.own = true → b.own = true)) ∨ ∃ j n l0 b, π j = some n ∧ ι n = some l0 ∧ m[n]? = some b ∧ b.live = true ∧ b.own = true ∧ l0.g = l.g := by
    intro k l b0 h1 h2 h3
    rcases Nat.lt_or_ge k m0.length with hk | hk
    · rw [keep0 hk] at h1
      obtain ⟨n, h4, h5⟩ := viaS h1
      obtain ⟨c, h6, _, h7, h8⟩ := A.alive k b0 hk h2
      obtain ⟨b, h9, s⟩ := S.blk k n c h6 h4
      exact .inr (.inl ⟨n, b, h4, h5, h9, by rw [s.live]; exact h8 h3, fun ho => by rw [s.own]; exact h7 ho⟩)
    · rcases A.origin k l b0 hk h1 h2 h3 with h | ⟨j, l0, c, a1, a2, a3, a4, a5⟩
      · exact .inl h
      · obtain ⟨n, b, e0, e1, e2, e3, e4⟩ := own a1 a2 a3 a4
        exact .inr (.inr ⟨j, n, l0, b, e0, e1, e2, e3, e4, a5⟩)
  have hsz : ∀ {n l b}, ι n = some l → m[n]? = some b → b.live = true → l.g < w.heap.size := fun h1 h2 h3 => (R.cells _ _ _ h1 h2 h3).lt
  have still : ∀ {n l b}, ι n = some l → m[n]? = some b → b.live = true → (∀ k, π k ≠ some n) → w'.heap[l.g]? = w.heap[l.g]? := by
    intro n l b h1 h2 h3 h4
    refine A.frame _ (hsz h1 h2 h3) fun j l0 b0 a1 a2 a3 a4 e => ?_
    obtain ⟨n', c, e0, e1, e2, e3, e4⟩ := own a1 a2 a3 a4
    exact R.apart n' n l0 l c b (fun h => by subst h; exact h4 j e0) e1 h1 e2 h2 e3 h3 e4 e
  -- a block that the call did not see lies apart from the call's
  have sep : ∀ {n l b k l0 b0}, ι n = some l → m[n]? = some b → b.live = true → (∀ k, π k ≠ some n) → ι1 k = some l0 → m0'[k]? = some b0 → b0.live = true → (b.own = true ∨ b0.own = true) → l.g ≠ l0.g := by
    intro n l b k l0 b0 h1 h2 h3 h4 h5 h6 h7 h8 e
    rcases orig h5 h6 h7 with h | ⟨n', b', q1, q2, q3, q4, q5⟩ | ⟨j, n', l1, b', q1, q2, q3, q4, q5, q6⟩
    · have := hsz h1 h2 h3
      omega
    · have hne : n ≠ n' := fun h => by subst h; exact h4 k q1
      rcases h8 with h8 | h8
      · exact R.apart n n' l l0 b b' hne h1 q2 h2 q3 h3 q4 h8 e
      · exact R.apart n' n l0 l b' b hne.symm q2 h1 q3 h2 q4 h3 (q5 h8) e.symm
    · have hne : n ≠ n' := fun h => by subst h; exact h4 j q1
      exact R.apart n' n l1 l b' b hne.symm q2 h1 q3 h2 q4 h3 q5 (q6.trans e.symm)
  refine ⟨v1, ι2, rfl, ?_, hv.forth hp hl v1 r⟩
  refine { len := by omega, keep := ?_, rep := ⟨?_, ?_, ?_, ?_, A.rep.frozen, ?_, ?_⟩, frame := ?_, origin := ?_, alive := ?_, fz := A.fz, ice := ?_, unreal := ?_, os := A.os, tape := A.tape, output := A.output, size := A.size }
  · intro n hn
    show (if n < m.length then ι n else if n < m'.length then ι1 (m0.length + (n - m.length)) else ι n) = ι n
    split
    · rfl
    · rw [if_neg (by omega)]
  · intro n l b h1 h2 h3
    rcases blk h2 h1 with ⟨hn, e1, e2, e3⟩ | ⟨k, b0, e0, e1, e2, s⟩
    · have M := R.cells n l b e2 e1 h3
      exact (M.mono hle).heap (still e2 e1 h3 e3)
    · exact (A.rep.cells k l b0 e2 e1 (by rw [← s.live]; exact h3)).forth hp hl s (by rw [← s.live]; exact h3)
  · intro n n' l l' b b' hne h1 h2 h3 h4 h5 h6 h7
    rcases blk h3 h1 with ⟨hn, e1, e2, e3⟩ | ⟨k, b0, e0, e1, e2, s⟩ <;> rcases blk h4 h2 with ⟨hn', e1', e2', e3'⟩ | ⟨k', b0', e0', e1', e2', s'⟩
    · exact R.apart n n' l l' b b' hne e2 e2' e1 e1' h5 h6 h7
    · exact sep e2 e1 h5 e3 e2' e1' (by rw [← s'.live]; exact h6) (.inl h7)
    · exact fun e => sep e2' e1' h6 e3' e2 e1 (by rw [← s.live]; exact h5) (.inr (by rw [← s.own]; exact h7)) e.symm
    · refine A.rep.apart k k' l l' b0 b0' (fun hk => hne ?_) e2 e2' e1 e1' (by rw [← s.live]; exact h5) (by rw [← s'.live]; exact h6) (by rw [← s.own]; exact h7)
      subst hk
      rw [e0] at e0'
      exact Option.some.inj e0'
  · intro n l b h1 h2 h3 h4
    rcases blk h2 h1 with ⟨hn, e1, e2, e3⟩ | ⟨k, b0, e0, e1, e2, s⟩
    · exact R.base n l b e2 e1 h3 h4
    · exact A.rep.base k l b0 e2 e1 (by rw [← s.live]; exact h3) (by rw [← s.own]; exact h4)
  · intro n l b h1 h2
    rcases blk h2 h1 with ⟨hn, e1, e2, e3⟩ | ⟨k, b0, e0, e1, e2, s⟩
    · exact R.es n l b e2 e1
    · rw [s.es]
      exact A.rep.es k l b0 e2 e1
  · intro n l b h1 h2 h3 h4
    rcases blk h2 h1 with ⟨hn, e1, e2, e3⟩ | ⟨k, b0, e0, e1, e2, s⟩
    · rcases A.ice l.g (R.cold n l b e2 e1 h3 h4) with h | h | ⟨j, l0, c, a1, a2, a3, a4, a5⟩
      · exact h
      · have := hsz e2 e1 h3
        omega
      · obtain ⟨n', c', q0, q1, q2, q3, q4⟩ := own a1 a2 a3 a4
        exact absurd a5 (R.apart n' n l0 l c' b (fun h => by subst h; exact e3 j q0) q1 e2 q2 e1 q3 h3 q4)
    · exact A.rep.cold k l b0 e2 e1 (by rw [← s.live]; exact h3) (by rw [← s.own]; exact h4)
  · intro n l b h1 h2 h3 h4
    rcases blk h2 h1 with ⟨hn, e1, e2, e3⟩ | ⟨k, b0, e0, e1, e2, s⟩
    · obtain ⟨c, hc⟩ := R.kept n l b e2 e1 h3 h4
      exact ⟨c, A.fz _ _ hc⟩
    · exact A.rep.kept k l b0 e2 e1 (by rw [← s.live]; exact h3) (by rw [← s.own]; exact h4)
  · intro g hg hn
    refine A.frame g hg fun n l b0 h1 h2 h3 h4 => ?_
    obtain ⟨n', b, _, e1, e2, e3, e4⟩ := own h1 h2 h3 h4
    exact hn n' l b e1 e2 e3 e4
  · intro n l b hn h1 h2 h3
    rcases blk h2 h1 with ⟨hn', _⟩ | ⟨k, b0, e0, e1, e2, s⟩
    · omega
    · rcases orig e2 e1 (by rw [← s.live]; exact h3) with h | ⟨n', b', q1, q2, q3, q4, q5⟩ | ⟨j, n', l1, b', q1, q2, q3, q4, q5, q6⟩
      · exact .inl h
      · have := mlo q1
        rw [e0] at this
        cases this
        have := (List.getElem?_eq_some_iff.1 q3).1
        omega
      · exact .inr ⟨n', l1, b', q2, q3, q4, q5, q6⟩
  · intro n b hn h1
    rcases dec n with ⟨k, hk⟩ | hk
    · have hk0 := S.dom k n hk
      have hk1 : k < m0'.length := by omega
      obtain ⟨b', h3, s⟩ := hin k n _ (List.getElem?_eq_getElem hk1) (mlo hk)
      rw [h1] at h3
      cases h3
      obtain ⟨c, h4, h5, h6, h7⟩ := A.alive k _ hk0 (List.getElem?_eq_getElem hk1)
      obtain ⟨d, h8, s'⟩ := S.blk k n c h4 hk
      exact ⟨d, h8, by rw [s.es, h5, s'.es], fun h => by rw [s'.own]; exact h6 (by rw [← s.own]; exact h), fun h => by rw [s'.live]; exact h7 (by rw [← s.live]; exact h)⟩
    · rw [hout n hn hk] at h1
      exact ⟨b, h1, rfl, id, id⟩
  · intro g hg
    rcases A.ice g hg with h | h | ⟨j, l0, c, a1, a2, a3, a4, a5⟩
    · exact .inl h
    · exact .inr (.inl h)
    · obtain ⟨n', c', q0, q1, q2, q3, q4⟩ := own a1 a2 a3 a4
      exact .inr (.inr ⟨n', l0, c', q1, q2, q3, q4, a5⟩)
  · intro n hn h1
    rcases dec n with ⟨k, hk⟩ | hk
    · rcases hreal k n hk with h2 | h2
      · exact h2
      · obtain ⟨l, h3⟩ := h2.loc R hargs'
        rw [h1] at h3
        cases h3
    · exact hout n hn hk
end
end Go.Ab
