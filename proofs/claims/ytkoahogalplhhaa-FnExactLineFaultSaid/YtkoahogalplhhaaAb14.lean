/- Part of an own evaluator of Go code on numbered blocks, and of the proof that the machine does what it says; each theorem carries its own conditions. -/
import Derived.Test.YtkoahogalplhhaaAb13
set_option linter.unusedVariables false
set_option linter.unusedSimpArgs false
namespace Go.Ab

/-! ## What is frozen -/

section
variable {C : Cfg} {B : Nat} {ι ι' : Emb} {m : Mem} {w : World}

/-- The blocks of a list lie somewhere and may be looked at. -/
def Seen (ι : Emb) (m : Mem) (ns : List Nat) : Prop := ∀ n ∈ ns, ∃ l b, ι n = some l ∧ m[n]? = some b ∧ b.live = true

/-- All that these blocks hold is frozen. -/
def Iced (ι ι' : Emb) (m : Mem) (w : World) (ns : List Nat) : Prop := ∀ n ∈ ns, ∀ l b, ι n = some l → m[n]? = some b → b.live = true → ∃ c e z, w.heap[l.g]? = some (.cells c e z) ∧ ι'.fz l.g = some c

theorem mapF_seen {f : Value → Option (Value × List Nat)} (hf : ∀ v v' vf ns, f v = some (vf, ns) → VR ι v v' → Seen ι m ns) : ∀ (vs vs' xs : List Value) (ns : List Nat), mapF f vs = some (xs, ns) → VRL ι vs vs' → Seen ι m ns
  | [], vs', xs, ns, h, hr => by
    simp only [mapF] at h
    cases h
    intro n hn; cases hn
  | v :: vs, vs', xs, ns, h, hr => by
    obtain ⟨y, ys, rfl, r1, r2⟩ := hr.cases_cons
    simp only [mapF] at h
    split at h
    · cases h
    · rename_i y1 a h1
      split at h
      · cases h
      · rename_i ys1 b h2
        cases h
        intro n hn
        rw [List.mem_append] at hn
        rcases hn with hn | hn
        · exact hf v y _ _ h1 r1 n hn
        · exact mapF_seen hf vs ys _ _ h2 r2 n hn

theorem mapF_sound {f : Value → Option (Value × List Nat)} (hf : ∀ v v' vf ns, f v = some (vf, ns) → Iced ι ι' m w ns → VR ι v v' → VR ι'.bare vf v') : ∀ (vs vs' xs : List Value) (ns : List Nat), mapF f vs = some (xs, ns) → Iced ι ι' m w ns → VRL ι vs vs' → VRL ι'.bare xs vs'
  | [], vs', xs, ns, h, _, hr => by
    simp only [mapF] at h
    cases h
    rw [hr.cases_nil]
    exact .nil
  | v :: vs, vs', xs, ns, h, hi, hr => by
    obtain ⟨y, ys, rfl, r1, r2⟩ := hr.cases_cons
    simp only [mapF] at h
    split at h
    · cases h
    · rename_i y1 a h1
      split at h
      · cases h
      · rename_i ys1 b h2
        cases h
        exact .cons (hf v y _ _ h1 (fun n hn => hi n (List.mem_append_left _ hn)) r1) (mapF_sound hf vs ys _ _ h2 (fun n hn => hi n (List.mem_append_right _ hn)) r2)

theorem frz_seen (R : Rep B ι m w) : ∀ (k : Nat) (v v' vf : Value) (ns : List Nat), frz k m v = some (vf, ns) → VR ι v v' → Seen ι m ns := by
  intro k
  induction k with
  | zero => intro v v' vf ns h; simp [frz] at h
  | succ k ih =>
    intro v v' vf ns h r
    have nothing : ∀ u, some (u, ([] : List Nat)) = some (vf, ns) → Seen ι m ns := fun u e => by
      cases e
      intro n hn; cases hn
    unfold frz at h
    split at h
    · split at h
      · rename_i xs ns1 hm
        cases h
        cases r with
        | agg a a' h1 h2 => exact mapF_seen ih _ _ _ _ hm (VR.arr h1 h2)
      · cases h
    · split at h
      · rename_i xs ns1 hm
        cases h
        cases r with
        | tuple a a' h1 h2 => exact mapF_seen ih _ _ _ _ hm (VR.arr h1 h2)
      · cases h
    · exact nothing _ h
    · split at h
      · exact nothing _ h
      · split at h
        · rename_i b hb
          split at h
          · rename_i hv
            split at h
            · rename_i cs hrd
              split at h
              · rename_i xs ns1 hm
                cases h
                cases r with
                | sl n o len acap l off ccap h1 h2 h3 h4 h5 =>
                obtain ⟨_, _, cs', q1, _⟩ := rd_sound R h1 hrd
                intro n' hn'
                rw [List.mem_cons] at hn'
                rcases hn' with rfl | hn'
                · exact ⟨l, b, h1, hb, hv⟩
                · exact mapF_seen ih _ _ _ _ hm q1 n' hn'
              · cases h
            · cases h
          · cases h
        · cases h
    · split at h
      · rename_i b hb
        split at h
        · rename_i hv
          split at h
          · rename_i xs ns1 hm
            cases h
            cases r with
            | ptr n o l h1 =>
            have hrd : rd m n o (b.cells.length - o) = some (b.cells.drop o) := by
              unfold rd
              split
              · rename_i h0
                rw [List.drop_eq_nil_of_le (by omega)]
              · simp only [hb]
                rw [if_pos ⟨hv.1, by have := hv.2; simp only at this; omega⟩, List.take_of_length_le (by simp)]
            obtain ⟨_, _, cs', q1, _⟩ := rd_sound R h1 hrd
            intro n' hn'
            rw [List.mem_cons] at hn'
            rcases hn' with rfl | hn'
            · exact ⟨l, b, h1, hb, hv.1⟩
            · exact mapF_seen ih _ _ _ _ hm q1 n' hn'
          · cases h
        · cases h
      · cases h
    · exact nothing _ h
    · split at h
      · exact nothing _ h
      · cases h
    · exact nothing _ h
    · exact nothing _ h
    · exact nothing _ h
    · exact nothing _ h
    · exact nothing _ h
    · cases h

theorem flat_back {xs cs' : List Value} (h : VRL ι xs cs') (hf : cs'.all flat = true) : xs.all flat = true := by
  rw [List.all_eq_true] at hf ⊢
  intro x hx
  obtain ⟨i, hi, rfl⟩ := List.getElem_of_mem hx
  obtain ⟨y, h1, h2⟩ := h.get (List.getElem?_eq_getElem hi)
  rw [← h2.flat]
  exact hf y (List.mem_of_getElem? h1)

/-- The cells that were read, against those of the block. -/
theorem frozen_cells {xs cs' : List Value} {c : Array Value} {e : TypeId} {z : Nat × Nat} {g off : Nat} (hx : VRL ι xs cs') (hh : w.heap[g]? = some (.cells c e z)) (hc : ∀ (j : Nat) v, cs'[j]? = some v → w.cell? ⟨g, off + j, none⟩ = some v) :
    (xs.toArray.size = 0 ∨ off + xs.toArray.size ≤ c.size) ∧ ∀ (i : Nat) x y, xs.toArray[i]? = some x → c[off + i]? = some y → VR ι x y := by
  have cell : ∀ (j : Nat) v, cs'[j]? = some v → c[off + j]? = some v := fun j v hj => by
    have := hc j v hj
    simpa [World.cell?, hh] using this
  constructor
  · rcases Nat.eq_zero_or_pos xs.length with h0 | h0
    · left; simpa using h0
    · right
      have hl := hx.1
      have := cell (xs.length - 1) _ (List.getElem?_eq_getElem (by omega))
      have := (Array.getElem?_eq_some_iff.1 this).1
      simp
      omega
  · intro i x y h1 h2
    obtain ⟨u, q1, q2⟩ := hx.get (i := i) (x := x) (by simpa using h1)
    rw [cell i u q1] at h2
    cases h2
    exact q2

theorem frz_sound (R : Rep B ι m w) (hfz : ∀ g c, ι.fz g = some c → ι'.fz g = some c) : ∀ (k : Nat) (v v' vf : Value) (ns : List Nat), frz k m v = some (vf, ns) → Iced ι ι' m w ns → VR ι v v' → VR ι'.bare vf v' := by
  intro k
  induction k with
  | zero => intro v v' vf ns h; simp [frz] at h
  | succ k ih =>
    intro v v' vf ns h hi r
    unfold frz at h
    split at h
    · split at h
      · rename_i xs ns1 hm
        cases h
        cases r with
        | agg a a' h1 h2 =>
          have := (mapF_sound ih _ _ _ _ hm hi (VR.arr h1 h2)).agg
          simpa using this
      · cases h
    · split at h
      · rename_i xs ns1 hm
        cases h
        cases r with
        | tuple a a' h1 h2 =>
          have := (mapF_sound ih _ _ _ _ hm hi (VR.arr h1 h2)).tuple
          simpa using this
      · cases h
    · cases h
      cases r with
      | slNil a ha => exact .ro0 a 0 ha
    · split at h
      · rename_i h0
        cases h
        cases r with
        | sl n o len acap l off ccap h1 h2 h3 h4 h5 =>
        subst h0
        exact .ro0 _ ccap (plainA.some _ _)
      · rename_i h0
        split at h
        · rename_i b hb
          split at h
          · rename_i hv
            split at h
            · rename_i cs hrd
              split at h
              · rename_i xs ns1 hm
                cases h
                cases r with
                | sl n o len acap l off ccap h1 h2 h3 h4 h5 =>
                obtain ⟨_, q0, cs', q1, q2⟩ := rd_sound R h1 hrd
                have hx := mapF_sound ih _ _ _ _ hm (fun n' hn' => hi n' (List.mem_cons_of_mem _ hn')) q1
                obtain ⟨c, e, z, p1, p2⟩ := hi n (List.mem_cons_self ..) l b h1 hb hv
                have hoff : off = l.sh + o := h5.resolve_left (by omega)
                subst hoff
                obtain ⟨t1, t2⟩ := frozen_cells hx p1 q2
                exact .ro _ xs.toArray l.g (l.sh + o) ccap c p2 t1 (Nat.le_trans h2 h3) t2 (by simpa using flat_back hx (q1.all_flat q0))
              · cases h
            · cases h
          · cases h
        · cases h
    · split at h
      · rename_i b hb
        split at h
        · rename_i hv
          split at h
          · rename_i xs ns1 hm
            cases h
            cases r with
            | ptr n o l h1 =>
            have hrd : rd m n o (b.cells.length - o) = some (b.cells.drop o) := by
              unfold rd
              split
              · rename_i h0
                rw [List.drop_eq_nil_of_le (by omega)]
              · simp only [hb]
                rw [if_pos ⟨hv.1, by have := hv.2; simp only at this; omega⟩, List.take_of_length_le (by simp)]
            obtain ⟨_, q0, cs', q1, q2⟩ := rd_sound R h1 hrd
            have hx := mapF_sound ih _ _ _ _ hm (fun n' hn' => hi n' (List.mem_cons_of_mem _ hn')) q1
            obtain ⟨c, e, z, p1, p2⟩ := hi n (List.mem_cons_self ..) l b h1 hb hv.1
            obtain ⟨t1, t2⟩ := frozen_cells hx p1 q2
            exact .rop xs.toArray l.g (l.sh + o) c p2 t1 t2 (by simpa using flat_back hx (q1.all_flat q0))
          · cases h
        · cases h
      · cases h
    · cases h; cases r; exact .ptrNil
    · split at h
      · rename_i h0
        cases h
        cases r with
        | func fn a a' b b' g1 g2 g3 g4 =>
          refine .func _ #[] _ #[] _ ?_ (fun i x y hx => by simp at hx) ?_ (fun i x y hx => by simp at hx)
          · have := h0.1; simp; omega
          · have := h0.2; simp; omega
      · cases h
    · cases h; cases r; exact .bool _
    · cases h; cases r; exact .int _ _
    · cases h; cases r; exact .string _
    · cases h; cases r; exact .nilFunc
    · cases h
      have hle : ι.bare.le ι'.bare := ⟨fun _ _ e => e, hfz⟩
      cases r with
      | ro len cs g off ccap c h1 h2 h3 h4 h5 => exact .ro _ cs g off ccap c (hfz _ _ h1) h2 h3 (fun i x y hx hy => (h4 i x y hx hy).mono hle) h5
      | ro0 a ccap ha => exact .ro0 a ccap ha
      | rop cs g off c h1 h2 h3 h4 => exact .rop cs g off c (hfz _ _ h1) h2 (fun i x y hx hy => (h3 i x y hx hy).mono hle) h4
    · cases h
end
end Go.Ab
