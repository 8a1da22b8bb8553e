/- Part of an own evaluator of Go code on numbered blocks, and of the proof that the machine does what it says; each theorem carries its own conditions. -/
import Derived.Test.YtkoahogalplhhaaAb14
set_option linter.unusedVariables false
set_option linter.unusedSimpArgs false
namespace Go.Ab

section
variable {C : Cfg} {B : Nat} {ι ι' : Emb} {m : Mem} {w : World}

theorem seal_len : ∀ (ns : List Nat) (m : Mem), (sealM m ns).length = m.length
  | [], m => rfl
  | n :: ns, m => by
    rw [sealM, seal_len ns]
    split <;> simp

/-- What sealing does to one block. -/
theorem seal_get : ∀ (ns : List Nat) (m : Mem) (k : Nat) (b' : Blk), (sealM m ns)[k]? = some b' → ∃ b, m[k]? = some b ∧ b'.cells = b.cells ∧ b'.es = b.es ∧ b'.live = b.live ∧ ((k ∈ ns ∧ b'.own = false) ∨ (k ∉ ns ∧ b' = b))
  | [], m, k, b', h => ⟨b', h, rfl, rfl, rfl, .inr ⟨by simp, rfl⟩⟩
  | n :: ns, m, k, b', h => by
    rw [sealM] at h
    obtain ⟨b1, h1, e1, e2, e3, e4⟩ := seal_get ns _ k b' h
    split at h1
    · rename_i b hb
      by_cases hk : n = k
      · subst hk
        rw [List.getElem?_set_self (List.getElem?_eq_some_iff.1 hb).1] at h1
        cases h1
        refine ⟨b, hb, e1, e2, e3, .inl ⟨List.mem_cons_self .., ?_⟩⟩
        rcases e4 with ⟨_, h⟩ | ⟨_, h⟩
        · exact h
        · rw [h]
      · rw [List.getElem?_set_ne hk] at h1
        refine ⟨b1, h1, e1, e2, e3, ?_⟩
        rcases e4 with ⟨h, h'⟩ | ⟨h, h'⟩
        · exact .inl ⟨List.mem_cons_of_mem _ h, h'⟩
        · exact .inr ⟨by rw [List.mem_cons]; rintro (h0 | h0); exact hk h0.symm; exact h h0, h'⟩
    · rename_i hb
      refine ⟨b1, h1, e1, e2, e3, ?_⟩
      rcases e4 with ⟨h, h'⟩ | ⟨h, h'⟩
      · exact .inl ⟨List.mem_cons_of_mem _ h, h'⟩
      · refine .inr ⟨?_, h'⟩
        rw [List.mem_cons]
        rintro (h0 | h0)
        · subst h0
          rw [hb] at h1; cases h1
        · exact h h0

theorem seal_none (ns : List Nat) (m : Mem) (k : Nat) (h : k ∉ ns) : (sealM m ns)[k]? = m[k]? := by
  cases h1 : (sealM m ns)[k]? with
  | none =>
    rw [List.getElem?_eq_none_iff, seal_len] at h1
    rw [List.getElem?_eq_none h1]
  | some b' =>
    obtain ⟨b, h2, _, _, _, h3⟩ := seal_get ns m k b' h1
    rcases h3 with ⟨h3, _⟩ | ⟨_, h3⟩
    · exact absurd h3 h
    · rw [h2, h3]

theorem seal_grow (m : Mem) (ns : List Nat) : Grow m (sealM m ns) := by
  refine ⟨by rw [seal_len]; exact Nat.le_refl _, fun k b hb => ?_⟩
  have hk := (List.getElem?_eq_some_iff.1 hb).1
  have h1 : (sealM m ns)[k]? = some ((sealM m ns)[k]'(by rw [seal_len]; exact hk)) := List.getElem?_eq_getElem _
  obtain ⟨b0, h2, e1, e2, e3, e4⟩ := seal_get ns m k _ h1
  rw [hb] at h2
  cases h2
  refine ⟨_, h1, e2, fun h => ?_, fun h => by rw [← e3]; exact h⟩
  rcases e4 with ⟨_, h'⟩ | ⟨_, h'⟩
  · rw [h'] at h; cases h
  · rw [← h']; exact h

/-- The places of the own blocks of a list. -/
def Spots (ι : Emb) (m : Mem) (ns : List Nat) (g : Nat) : Prop := ∃ n l b, n ∈ ns ∧ ι n = some l ∧ m[n]? = some b ∧ b.live = true ∧ b.own = true ∧ l.g = g

open Classical in
/-- These places are frozen as they stand. -/
noncomputable def Emb.freeze (ι : Emb) (S : Nat → Prop) (w : World) : Emb :=
  { ι with fz := fun g => if S g then (match w.heap[g]? with
    | some (.cells c _ _) => some c
    | _ => none) else ι.fz g }

theorem freeze_loc (ι : Emb) (S : Nat → Prop) (w : World) (n : Nat) : (ι.freeze S w) n = ι n := rfl

theorem freeze_not {S : Nat → Prop} {g : Nat} (h : ¬ S g) : (ι.freeze S w).fz g = ι.fz g := by
  simp [Emb.freeze, h]

theorem spots_cold (R : Rep B ι m w) {ns : List Nat} {g : Nat} (h : Spots ι m ns g) : ι.fz g = none := by
  obtain ⟨n, l, b, _, h1, h2, h3, h4, rfl⟩ := h
  exact R.cold n l b h1 h2 h3 h4

theorem freeze_le (R : Rep B ι m w) (ns : List Nat) : ι.le (ι.freeze (Spots ι m ns) w) := by
  refine ⟨fun _ _ h => h, fun g c h => ?_⟩
  rw [freeze_not]
  · exact h
  · intro hs
    rw [spots_cold R hs] at h
    cases h

theorem freeze_at (R : Rep B ι m w) {ns : List Nat} {g : Nat} (h : Spots ι m ns g) : ∃ c e z, w.heap[g]? = some (.cells c e z) ∧ (ι.freeze (Spots ι m ns) w).fz g = some c := by
  have hs := h
  obtain ⟨n, l, b, _, h1, h2, h3, h4, rfl⟩ := h
  obtain ⟨c, e, z, q, _⟩ := (R.cells n l b h1 h2 h3).ex
  exact ⟨c, e, z, q, by simp [Emb.freeze, hs, q]⟩

theorem freeze_iced (R : Rep B ι m w) (ns : List Nat) : Iced ι (ι.freeze (Spots ι m ns) w) m w ns := by
  intro n hn l b h1 h2 h3
  cases ho : b.own with
  | true => exact freeze_at R ⟨n, l, b, hn, h1, h2, h3, ho, rfl⟩
  | false =>
    obtain ⟨c, hc⟩ := R.kept n l b h1 h2 h3 ho
    obtain ⟨e, z, hz⟩ := R.frozen _ _ hc
    exact ⟨c, e, z, hz, (freeze_le R ns).fz _ _ hc⟩

/-- The blocks of a list are only read from now on. -/
theorem After.seal (R : Rep B ι m w) {ns : List Nat} (hs : Seen ι m ns) : After B ι m w (ι.freeze (Spots ι m ns) w) (sealM m ns) w := by
  have hle := freeze_le R ns
  refine { len := by rw [seal_len]; exact Nat.le_refl _, keep := fun _ _ => rfl, rep := ⟨?_, ?_, ?_, ?_, ?_, ?_, ?_⟩, frame := fun _ _ _ => rfl, origin := ?_, alive := ?_, fz := hle.fz, ice := ?_, unreal := ?_, os := rfl, tape := rfl, output := rfl, size := Nat.le_refl _ }
  · intro n l b h1 h2 h3
    obtain ⟨b0, q1, e1, e2, e3, e4⟩ := seal_get ns m n b h2
    have M := R.cells n l b0 h1 q1 (by rw [← e3]; exact h3)
    obtain ⟨c, e, z, m1, m2, m3, m4, m5⟩ := M.ex
    refine ⟨⟨c, e, z, m1, m2, by rw [e1]; exact m3, fun i v hv => ?_, fun ho => ?_⟩, by rw [e1]; exact M.flat⟩
    · rw [e1] at hv
      obtain ⟨v', t1, t2⟩ := m4 i v hv
      exact ⟨v', t1, t2.mono hle⟩
    · rcases e4 with ⟨_, h⟩ | ⟨_, h⟩
      · rw [h] at ho; cases ho
      · exact m5 (by rw [← h]; exact ho)
  · intro n n' l l' b b' h0 h1 h2 h3 h4 h5 h6 h7
    obtain ⟨b0, q1, e1, e2, e3, e4⟩ := seal_get ns m n b h3
    obtain ⟨b0', q1', e1', e2', e3', e4'⟩ := seal_get ns m n' b' h4
    rcases e4 with ⟨_, h⟩ | ⟨_, h⟩
    · rw [h] at h7; cases h7
    · exact R.apart n n' l l' b0 b0' h0 h1 h2 q1 q1' (by rw [← e3]; exact h5) (by rw [← e3']; exact h6) (by rw [← h]; exact h7)
  · intro n l b h1 h2 h3 h4
    obtain ⟨b0, q1, e1, e2, e3, e4⟩ := seal_get ns m n b h2
    rcases e4 with ⟨_, h⟩ | ⟨_, h⟩
    · rw [h] at h4; cases h4
    · subst h; exact R.base n l b h1 q1 h3 h4
  · intro n l b h1 h2
    obtain ⟨b0, q1, e1, e2, e3, e4⟩ := seal_get ns m n b h2
    rw [e2]
    exact R.es n l b0 h1 q1
  · intro g c h
    by_cases hS : Spots ι m ns g
    · obtain ⟨c', e, z, q1, q2⟩ := freeze_at R hS
      rw [h] at q2
      cases q2
      exact ⟨e, z, q1⟩
    · rw [freeze_not hS] at h
      exact R.frozen g c h
  · intro n l b h1 h2 h3 h4
    obtain ⟨b0, q1, e1, e2, e3, e4⟩ := seal_get ns m n b h2
    rcases e4 with ⟨_, h⟩ | ⟨hn, h⟩
    · rw [h] at h4; cases h4
    · subst h
      rw [freeze_not]
      · exact R.cold n l b h1 q1 h3 h4
      · rintro ⟨n2, l2, b2, z1, z2, z3, z4, z5, z6⟩
        exact R.apart n n2 l l2 b b2 (fun h => by subst h; exact hn z1) h1 z2 q1 z3 h3 z4 h4 z6.symm
  · intro n l b h1 h2 h3 h4
    obtain ⟨b0, q1, e1, e2, e3, e4⟩ := seal_get ns m n b h2
    have h3' : b0.live = true := by rw [← e3]; exact h3
    cases ho : b0.own with
    | true =>
      rcases e4 with ⟨hn, h⟩ | ⟨hn, h⟩
      · obtain ⟨c, e, z, _, q⟩ := freeze_at R ⟨n, l, b0, hn, h1, q1, h3', ho, rfl⟩
        exact ⟨c, q⟩
      · rw [h, ho] at h4; cases h4
    | false =>
      obtain ⟨c, hc⟩ := R.kept n l b0 h1 q1 h3' ho
      exact ⟨c, hle.fz _ _ hc⟩
  · intro n l b h1 _ h3 _
    have := (List.getElem?_eq_some_iff.1 h3).1
    rw [seal_len] at this
    omega
  · intro k b' hk hb
    obtain ⟨b0, q1, e1, e2, e3, e4⟩ := seal_get ns m k b' hb
    refine ⟨b0, q1, e2, fun h => ?_, fun h => by rw [← e3]; exact h⟩
    rcases e4 with ⟨_, h'⟩ | ⟨_, h'⟩
    · rw [h'] at h; cases h
    · rw [← h']; exact h
  · intro g hg
    by_cases hS : Spots ι m ns g
    · obtain ⟨n, l, b, _, z2, z3, z4, z5, z6⟩ := hS
      exact .inr (.inr ⟨n, l, b, z2, z3, z4, z5, z6⟩)
    · rw [freeze_not hS]
      exact .inl hg
  · intro k _ hk
    apply seal_none
    intro hn
    obtain ⟨l, b, q1, _⟩ := hs k hn
    rw [hk] at q1
    cases q1

/-! ## The callee's part of the memory -/

def Emb.cut (ι : Emb) (G : Nat) : Emb := { ι with loc := fun n => if n < G then ι n else none }

theorem cut_le (ι : Emb) (G : Nat) : (ι.cut G).le ι := by
  refine ⟨fun n l h => ?_, fun _ _ h => h⟩
  simp only [Emb.cut] at h
  split at h
  · exact h
  · cases h

theorem VR.inert {ι ι1 : Emb} (hfz : ι1.fz = ι.fz) {v v' : Value} (r : VR ι v v') (h : Ab.inert v = true) : VR ι1 v v' := by
  have hb : ι.bare.le ι1.bare := ⟨fun _ _ e => e, fun g c e => by simp only [Emb.bare] at e ⊢; rw [hfz]; exact e⟩
  cases r with
  | bool b => exact .bool b
  | int k n => exact .int k n
  | string s => exact .string s
  | nilFunc => exact .nilFunc
  | ptrNil => exact .ptrNil
  | ptr n o l h1 => simp [Ab.inert] at h
  | slNil a ha => exact .slNil a ha
  | sl n o len acap l off ccap h1 h2 h3 h4 h5 => simp [Ab.inert] at h
  | ro len cs g off ccap c h1 h2 h3 h4 h5 => exact .ro _ cs g off ccap c (by rw [hfz]; exact h1) h2 h3 (fun i x y hx hy => (h4 i x y hx hy).mono hb) h5
  | ro0 a ccap ha => exact .ro0 a ccap ha
  | rop cs g off c h1 h2 h3 h4 => exact .rop cs g off c (by rw [hfz]; exact h1) h2 (fun i x y hx hy => (h3 i x y hx hy).mono hb) h4
  | func fn a a' b b' h1 h2 h3 h4 => simp [Ab.inert] at h
  | agg a a' h1 h2 => simp [Ab.inert] at h
  | tuple a a' h1 h2 => simp [Ab.inert] at h

theorem cut_loc {ι : Emb} {G n : Nat} {l : Loc} (h : (ι.cut G) n = some l) : n < G ∧ ι n = some l := by
  simp only [Emb.cut] at h
  split at h
  · exact ⟨‹_›, h⟩
  · cases h

theorem take_get {m : Mem} {G n : Nat} {b : Blk} (h : (m.take G)[n]? = some b) : n < G ∧ m[n]? = some b := by
  rw [List.getElem?_take] at h
  split at h
  · exact ⟨‹_›, h⟩
  · cases h

theorem cut_rep (R : Rep B ι m w) (G : Nat) (hin : ∀ (n : Nat) (b : Blk), (m.take G)[n]? = some b → b.cells.all inert = true) : Rep B (ι.cut G) (m.take G) w := by
  refine ⟨fun n l b h1 h2 h3 => ?_, fun n n' l l' b b' h0 h1 h2 h3 h4 h5 h6 h7 => ?_, fun n l b h1 h2 h3 h4 => ?_, fun n l b h1 h2 => ?_, R.frozen, fun n l b h1 h2 h3 h4 => ?_, fun n l b h1 h2 h3 h4 => ?_⟩
  · have M := R.cells n l b (cut_loc h1).2 (take_get h2).2 h3
    obtain ⟨c, e, z, m1, m2, m3, m4, m5⟩ := M.ex
    refine ⟨⟨c, e, z, m1, m2, m3, fun i v hv => ?_, m5⟩, M.flat⟩
    obtain ⟨v', t1, t2⟩ := m4 i v hv
    have hi := hin n b h2
    rw [List.all_eq_true] at hi
    exact ⟨v', t1, VR.inert (ι := ι) (ι1 := ι.cut G) rfl t2 (hi v (List.mem_of_getElem? hv))⟩
  · exact R.apart n n' l l' b b' h0 (cut_loc h1).2 (cut_loc h2).2 (take_get h3).2 (take_get h4).2 h5 h6 h7
  · exact R.base n l b (cut_loc h1).2 (take_get h2).2 h3 h4
  · exact R.es n l b (cut_loc h1).2 (take_get h2).2
  · exact R.cold n l b (cut_loc h1).2 (take_get h2).2 h3 h4
  · exact R.kept n l b (cut_loc h1).2 (take_get h2).2 h3 h4
end
end Go.Ab
