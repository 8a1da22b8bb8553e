/- Part of an own evaluator of Go code on numbered blocks, and of the proof that the machine does what it says; each theorem carries its own conditions. -/
import Derived.Test.YtkoahogalplhhaaAb15
set_option linter.unusedVariables false
set_option linter.unusedSimpArgs false
namespace Go.Ab

section
variable {C : Cfg} {B : Nat} {ι ι1 : Emb} {m m2 : Mem} {w w' : World}

/-- What a call on values alone leaves: the caller's memory as it was; what it answers is frozen. -/
theorem After.still {G : Nat} (R : Rep B ι m w) (hg : ∀ (n : Nat) (b : Blk), (m.take G)[n]? = some b → b.own = false) (A : After B (ι.cut G) (m.take G) w ι1 m2 w') (ns : List Nat) :
    After B ι m w { ι with fz := (ι1.freeze (Spots ι1 m2 ns) w').fz } m w' := by
  have own2 : ∀ {n l b}, ι1 n = some l → m2[n]? = some b → b.live = true → b.own = true → w.heap.size ≤ l.g := by
    intro n l b h1 h2 h3 h4
    rcases Nat.lt_or_ge n (m.take G).length with h | h
    · obtain ⟨b0, q1, _, q2, _⟩ := A.alive n b h h2
      have := hg n b0 q1
      rw [q2 h4] at this
      cases this
    · rcases A.origin n l b h h1 h2 h3 with h' | ⟨k, l0, b0, _, q2, _, q4, _⟩
      · exact h'
      · have := hg k b0 q2
        rw [q4] at this
        cases this
  have spot : ∀ {g}, Spots ι1 m2 ns g → w.heap.size ≤ g := by
    rintro g ⟨n, l, b, _, h1, h2, h3, h4, rfl⟩
    exact own2 h1 h2 h3 h4
  have ice1 : ∀ g, ι.fz g = none → g < w.heap.size → ι1.fz g = none := by
    intro g h1 h2
    rcases A.ice g h1 with h | h | ⟨n, l, b, _, q2, _, q4, _⟩
    · exact h
    · omega
    · have := hg n b q2
      rw [q4] at this
      cases this
  have fzle : ∀ g c, ι.fz g = some c → (ι1.freeze (Spots ι1 m2 ns) w').fz g = some c := fun g c h => (freeze_le A.rep ns).fz g c (A.fz g c h)
  have hle : ι.le { ι with fz := (ι1.freeze (Spots ι1 m2 ns) w').fz } := ⟨fun _ _ h => h, fzle⟩
  have frame : ∀ g, g < w.heap.size → w'.heap[g]? = w.heap[g]? := fun g h => A.frame g h fun n l b _ q2 _ q4 => by
    have := hg n b q2
    rw [q4] at this
    cases this
  refine { len := Nat.le_refl _, keep := fun _ _ => rfl, rep := ⟨?_, R.apart, R.base, R.es, ?_, ?_, ?_⟩, frame := fun g h _ => frame g h, origin := ?_, alive := fun k b' _ h => ⟨b', h, rfl, id, id⟩, fz := fzle, ice := ?_, unreal := fun _ _ _ => rfl, os := A.os, tape := A.tape, output := A.output, size := A.size }
  · intro n l b h1 h2 h3
    have M := R.cells n l b h1 h2 h3
    exact (M.mono hle).heap (frame _ M.lt)
  · intro g c h
    by_cases hS : Spots ι1 m2 ns g
    · obtain ⟨c', e, z, q1, q2⟩ := freeze_at A.rep hS
      simp only at h
      rw [q2] at h
      cases h
      exact ⟨e, z, q1⟩
    · simp only at h
      rw [freeze_not hS] at h
      exact A.rep.frozen g c h
  · intro n l b h1 h2 h3 h4
    have hlt := (R.cells n l b h1 h2 h3).lt
    simp only
    rw [freeze_not]
    · exact ice1 _ (R.cold n l b h1 h2 h3 h4) hlt
    · intro hS
      have := spot hS
      omega
  · intro n l b h1 h2 h3 h4
    obtain ⟨c, hc⟩ := R.kept n l b h1 h2 h3 h4
    exact ⟨c, fzle _ _ hc⟩
  · intro n l b h1 _ h3 _
    have := (List.getElem?_eq_some_iff.1 h3).1
    omega
  · intro g hg'
    by_cases hS : Spots ι1 m2 ns g
    · exact .inr (.inl (spot hS))
    · simp only
      rw [freeze_not hS]
      rcases A.ice g hg' with h | h | ⟨n, l, b, _, q2, _, q4, _⟩
      · exact .inl h
      · exact .inr (.inl h)
      · have := hg n b q2
        rw [q4] at this
        cases this
end
end Go.Ab
