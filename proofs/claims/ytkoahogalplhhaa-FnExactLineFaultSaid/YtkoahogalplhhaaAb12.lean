/- Part of an own evaluator of Go code on numbered blocks, and of the proof that the machine does what it says; each theorem carries its own conditions. -/
import Derived.Test.YtkoahogalplhhaaAb11
set_option linter.unusedVariables false
set_option linter.unusedSimpArgs false
namespace Go.Ab

section
variable {C : Cfg} {call : CallF} {ops : List Oper} {B : Nat}
variable {S : Nat → Tm × Mem} {E : List Ev}
variable {ι0 : Emb} {a0 : Act} {w0 : World} {D : Nat → Prop} {p : Nat} {ι : Emb} {a : Act} {w : World}

/-- An operation that makes a block, at whatever time. -/
theorem Inv.makes (X : Text C call ops S E) (I : Inv C ops S B ι0 a0 w0 D p ι a w) {N : Nat} (hN : N ≤ a.tmps.size) {j : Nat} {o : Oper} (ho : ops[j]? = some o) (hd : o.dst.all (· < N) = true) (hj : ¬ D j) (hpre : ∀ i, ahead (masks ops []) i j = true → D i)
    {b : Blk} (hA : IsAlloc C ops S j b) {u : Value} (hS : (S (j + 1)).1 = putD (S j).1 o.dst u) {u' : Value} {w' : World} {c : Array Value} {e : TypeId} {fz : Nat × Nat}
    (h2 : w'.heap = w.heap.push (.cells c e fz)) (h3 : b.cells.length ≤ c.size) (h4 : ∀ (i : Nat) x, b.cells[i]? = some x → ∃ x', c[i]? = some x' ∧ VR ι x x') (h5 : ∀ i, i < c.size → ¬ (fz.1 ≤ i ∧ i < fz.2))
    (h6 : w'.os = w.os) (h7 : w'.tape = w.tape) (h8 : w'.output = w.output) (h9 : b.live = true) (h10 : b.own = true) (h11 : b.cells.all flat = true)
    (h12 : ∀ ι' : Emb, ι' (S j).2.length = some ⟨w.heap.size, 0, c.size, b.es⟩ → ι.le ι' → VR ι' u u') :
    ∃ ι', Inv C ops S B ι0 a0 w0 (fun i => D i ∨ i = j) p ι' (a.put o.dst u') w' := by
  have hjl : j < ops.length := hA.lt
  have hfree := (I.pend j b hj hA).1
  have gj := (X.grow_le (Nat.zero_le j) (by omega)).len
  have gj1 := (X.grow_le (show j + 1 ≤ ops.length by omega) (Nat.le_refl _)).len
  have hjj : (S j).2.length < (S (j + 1)).2.length := (List.getElem?_eq_some_iff.1 hA.at).1
  generalize hk : (S j).2.length = k at *
  have hle : ι.le (ι.upd k ⟨w.heap.size, 0, c.size, b.es⟩) := Emb.upd_le _ hfree
  have hno : ι.fz w.heap.size = none := by
    cases h : ι.fz w.heap.size with
    | none => rfl
    | some c' =>
      obtain ⟨e', z, hz⟩ := I.rep.frozen _ _ h
      have := (Array.getElem?_eq_some_iff.1 hz).1
      omega
  have hold : ∀ g, g < w.heap.size → w'.heap[g]? = w.heap[g]? := fun g hg => by
    rw [h2, Array.getElem?_push, if_neg (by omega)]
  have hM : Match (ι.upd k ⟨w.heap.size, 0, c.size, b.es⟩) b ⟨w.heap.size, 0, c.size, b.es⟩ w' := by
    refine ⟨⟨c, e, fz, by rw [h2]; simp, Nat.le_refl _, by simpa using h3, ?_, fun _ => h5⟩, h11⟩
    intro i v hv
    obtain ⟨v', q1, q2⟩ := h4 i v hv
    exact ⟨v', by simpa using q1, q2.mono hle⟩
  have upd : ∀ {n l}, ι.upd k ⟨w.heap.size, 0, c.size, b.es⟩ n = some l → (n = k ∧ l = ⟨w.heap.size, 0, c.size, b.es⟩) ∨ (n ≠ k ∧ ι n = some l) := by
    intro n l h
    by_cases hn : n = k
    · subst hn
      rw [Emb.upd_same] at h
      cases h
      exact .inl ⟨rfl, rfl⟩
    · rw [Emb.upd_ne _ _ hn] at h
      exact .inr ⟨hn, h⟩
  have atk : ∀ {x}, (S p).2[k]? = some x → x = b := by
    intro x hx
    have hkp := (List.getElem?_eq_some_iff.1 hx).1
    have hjp : j < p := by
      rcases Nat.lt_or_ge j p with h | h
      · exact h
      · have := (X.grow_le h (by omega)).len
        omega
    have := (I.pend j b hj hA).2 hjp
    rw [hk, hx] at this
    cases this
    rfl
  refine ⟨ι.upd k ⟨w.heap.size, 0, c.size, b.es⟩, ?_⟩
  refine { lt := ?_, closed := closed_next I.closed hpre, ple := I.ple, effs := ?_, tmp := I.tmp_next X hN ho hd hS hle (h12 _ (Emb.upd_same ..) hle), dfr := (put_defers ..).trans I.dfr, tsz := (put_size ..).trans I.tsz, rep := ?_, hB := by rw [h2]; have := I.hB; simp; omega, glob := I.glob.mono hle, born := ?_, early := ?_, eapart := ?_, pend := ?_, keep := ?_, frame := ?_, origin := ?_, unreal := I.unreal, fzle := I.fzle, ice := I.ice, os := h6.trans I.os, tape := h7.trans I.tape, output := h8.trans I.output, size := by rw [h2]; have := I.size; simp; omega }
  · rintro i (h | h)
    · exact I.lt i h
    · omega
  · intro i o' q1 q2
    rw [← I.effs i o' q1 q2]
    refine ⟨fun h => ?_, .inl⟩
    rcases h with h | h
    · exact h
    · subst h
      obtain ⟨o2, z1, z2, _⟩ := hA
      rw [z1] at q1
      cases q1
      rw [z2] at q2
      cases q2
  · refine ⟨fun n l x q1 q2 q3 => ?_, fun n n' l l' x x' q0 q1 q2 q3 q4 q5 q6 q7 => ?_, fun n l x q1 q2 q3 q4 => ?_, fun n l x q1 q2 => ?_, fun g c' h => ?_, fun n l x q1 q2 q3 q4 => ?_, fun n l x q1 q2 q3 q4 => ?_⟩
    · rcases upd q1 with ⟨rfl, rfl⟩ | ⟨_, q⟩
      · rw [atk q2]; exact hM
      · have M := I.rep.cells n l x q q2 q3
        exact (M.mono hle).heap (hold _ M.lt)
    · rcases upd q1 with ⟨rfl, rfl⟩ | ⟨_, r1⟩ <;> rcases upd q2 with ⟨rfl, rfl⟩ | ⟨_, r2⟩
      · exact absurd rfl q0
      · have := (I.rep.cells n' l' x' r2 q4 q6).lt
        simp only; omega
      · have := (I.rep.cells n l x r1 q3 q5).lt
        simp only; omega
      · exact I.rep.apart n n' l l' x x' q0 r1 r2 q3 q4 q5 q6 q7
    · rcases upd q1 with ⟨rfl, rfl⟩ | ⟨_, q⟩
      · exact I.hB
      · exact I.rep.base n l x q q2 q3 q4
    · rcases upd q1 with ⟨rfl, rfl⟩ | ⟨_, q⟩
      · rw [atk q2]
      · exact I.rep.es n l x q q2
    · obtain ⟨e', z, hz⟩ := I.rep.frozen g c' h
      exact ⟨e', z, by rw [hold g (Array.getElem?_eq_some_iff.1 hz).1]; exact hz⟩
    · rcases upd q1 with ⟨rfl, rfl⟩ | ⟨_, q⟩
      · exact hno
      · exact I.rep.cold n l x q q2 q3 q4
    · rcases upd q1 with ⟨rfl, rfl⟩ | ⟨_, q⟩
      · rw [atk q2, h10] at q4; cases q4
      · exact I.rep.kept n l x q q2 q3 q4
  · intro n l q1 q2 q3
    rcases upd q3 with ⟨rfl, rfl⟩ | ⟨_, q⟩
    · rcases Nat.lt_or_ge j p with h | h
      · left
        have := (X.grow_le (show j + 1 ≤ p by omega) I.ple).len
        omega
      · exact .inr ⟨j, b, .inr rfl, h, hA, hk.symm⟩
    · rcases I.born n l q1 q2 q with h | ⟨i, b', g1, g2⟩
      · exact .inl h
      · exact .inr ⟨i, b', .inl g1, g2⟩
  · intro i b' q1 q2 q3
    by_cases hij : i = j
    · subst hij
      have : b' = b := by
        obtain ⟨_, _, _, z⟩ := q3
        obtain ⟨_, _, _, z'⟩ := hA
        rw [z] at z'
        have := List.append_cancel_left z'
        simpa using this
      subst this
      refine ⟨⟨w.heap.size, 0, c.size, b'.es⟩, by rw [hk, Emb.upd_same], ⟨hM, I.hB, rfl, h10, h9, ?_, I.size, hno⟩⟩
      intro n l x r1 r2 r3
      rcases upd r1 with ⟨rfl, rfl⟩ | ⟨_, r⟩
      · have := (X.grow_le q2 (by omega)).len
        have := (List.getElem?_eq_some_iff.1 r2).1
        omega
      · have := (I.rep.cells n l x r r2 r3).lt
        simp only; omega
    · have q1' : D i := q1.resolve_right hij
      obtain ⟨l, e1, EO⟩ := I.early i b' q1' q2 q3
      have hne : (S i).2.length ≠ k := fun h => hij (X.alloc_inj q3 hA (h.trans hk.symm))
      refine ⟨l, by rw [Emb.upd_ne _ _ hne]; exact e1, ⟨(EO.mt.mono hle).heap (hold _ EO.mt.lt), EO.base, EO.es, EO.own, EO.live, ?_, EO.fresh, EO.cold⟩⟩
      intro n l' x r1 r2 r3
      rcases upd r1 with ⟨rfl, rfl⟩ | ⟨_, r⟩
      · have := EO.mt.lt
        simp only; omega
      · exact EO.apart n l' x r r2 r3
  · intro i b1 i' b2 l l' q0 q1 q2 q3 q4 q5 q6 q7 q8
    rcases upd q7 with ⟨r1, r2⟩ | ⟨r1, r2⟩ <;> rcases upd q8 with ⟨t1, t2⟩ | ⟨t1, t2⟩
    · exact absurd (X.alloc_inj q3 q6 (r1.trans t1.symm)) q0
    · have hij : i' ≠ j := fun h => by subst h; exact t1 hk
      obtain ⟨l2, e1, EO⟩ := I.early i' b2 (q4.resolve_right hij) q5 q6
      rw [t2] at e1
      cases e1
      have := EO.mt.lt
      rw [r2]
      simp only; omega
    · have hij : i ≠ j := fun h => by subst h; exact r1 hk
      obtain ⟨l2, e1, EO⟩ := I.early i b1 (q1.resolve_right hij) q2 q3
      rw [r2] at e1
      cases e1
      have := EO.mt.lt
      rw [t2]
      simp only; omega
    · have hij : i ≠ j := fun h => by subst h; exact r1 hk
      have hij' : i' ≠ j := fun h => by subst h; exact t1 hk
      exact I.eapart i b1 i' b2 l l' q0 (q1.resolve_right hij) q2 q3 (q4.resolve_right hij') q5 q6 r2 t2
  · intro i b' q1 q2
    have q1' : ¬ D i := fun h => q1 (.inl h)
    have hij : i ≠ j := fun h => q1 (.inr h)
    have hne : (S i).2.length ≠ k := fun h => hij (X.alloc_inj q2 hA (h.trans hk.symm))
    rw [Emb.upd_ne _ _ hne]
    exact I.pend i b' q1' q2
  · intro n hn
    rw [Emb.upd_ne]
    · exact I.keep n hn
    · rintro rfl
      omega
  · intro g hg hn
    rw [hold g (Nat.lt_of_lt_of_le hg I.size)]
    exact I.frame g hg hn
  · intro n l x q1 q2 q3 q4
    rcases upd q2 with ⟨rfl, rfl⟩ | ⟨_, q⟩
    · exact .inl I.size
    · exact I.origin n l x q1 q q3 q4

/-- What changes memory, in its place in the text. -/
theorem Inv.effect (X : Text C call ops S E) (I : Inv C ops S B ι0 a0 w0 D p ι a w) {N : Nat} (hN : N ≤ a.tmps.size) {o : Oper} (ho : ops[p]? = some o) (hd : o.dst.all (· < N) = true) (hpre : ∀ i, ahead (masks ops []) i p = true → D i)
    (hc : cls C o = .eff) {u : Value} (hS : (S (p + 1)).1 = putD (S p).1 o.dst u) {u' : Value} {ι' : Emb} {w' : World} (A : After B ι (S p).2 w ι' (S (p + 1)).2 w') (hle : ι.le ι') (r : VR ι' u u') :
    Inv C ops S B ι0 a0 w0 (fun i => D i ∨ i = p) (p + 1) ι' (a.put o.dst u') w' := by
  have hpl : p < ops.length := (List.getElem?_eq_some_iff.1 ho).1
  have g0 := (X.grow_le (Nat.zero_le p) (by omega)).len
  have g1 := A.len
  have g2 := (X.grow_le (show p + 1 ≤ ops.length by omega) (Nat.le_refl _)).len
  have nal : ∀ {i b}, IsAlloc C ops S i b → i ≠ p := fun {i b} hb h => by
    subst h
    obtain ⟨o2, z1, z2, _⟩ := hb
    rw [ho] at z1
    cases z1
    rw [hc] at z2
    cases z2
  have after : ∀ {i b}, IsAlloc C ops S i b → p ≤ i → (S (p + 1)).2.length ≤ (S i).2.length := fun {i b} hb h => by
    have := nal hb
    exact (X.grow_le (show p + 1 ≤ i by omega) (Nat.le_of_lt hb.lt)).len
  have before : ∀ {i b}, IsAlloc C ops S i b → i < p → (S i).2.length < (S p).2.length := fun {i b} hb h => X.alloc_lt hb h (by omega)
  have same : ∀ {i b}, IsAlloc C ops S i b → ι' (S i).2.length = ι (S i).2.length := fun {i b} hb => by
    apply A.keep
    rcases Nat.lt_or_ge i p with h | h
    · exact .inl (before hb h)
    · exact .inr (after hb h)
  have back : ∀ {k l b}, ι k = some l → (S p).2[k]? = some b → b.live = true → b.own = true →
      w0.heap.size ≤ l.g ∨ ∃ k0 l0 b0, ι0 k0 = some l0 ∧ (S 0).2[k0]? = some b0 ∧ b0.live = true ∧ b0.own = true ∧ l0.g = l.g := by
    intro k l b q1 q2 q3 q4
    rcases Nat.lt_or_ge k (S 0).2.length with h | h
    · rw [I.keep k (.inl h)] at q1
      have hk0 : (S 0).2[k]? = some (S 0).2[k] := List.getElem?_eq_getElem h
      obtain ⟨b', e1, e2, e3, e4⟩ := (X.grow_le (Nat.zero_le p) (by omega)).old k _ hk0
      rw [q2] at e1
      cases e1
      exact .inr ⟨k, l, _, q1, hk0, e4 q3, e3 q4, rfl⟩
    · exact I.origin k l b h q1 q2 q3
  refine { lt := ?_, closed := closed_next I.closed hpre, ple := (by omega), effs := ?_, tmp := I.tmp_next X hN ho hd hS hle r, dfr := (put_defers ..).trans I.dfr, tsz := (put_size ..).trans I.tsz, rep := A.rep, hB := Nat.le_trans I.hB A.size, glob := I.glob.mono hle, born := ?_, early := ?_, eapart := ?_, pend := ?_, keep := ?_, frame := ?_, origin := ?_, unreal := ?_, fzle := fun g c h => A.fz g c (I.fzle g c h), ice := ?_, os := A.os.trans I.os, tape := A.tape.trans I.tape, output := A.output.trans I.output, size := Nat.le_trans I.size A.size }
  · rintro i (h | h)
    · exact I.lt i h
    · omega
  · intro i o' q1 q2
    have := I.effs i o' q1 q2
    constructor
    · rintro (h | h)
      · have := this.1 h; omega
      · omega
    · intro h
      by_cases e : i = p
      · exact .inr e
      · exact .inl (this.2 (by omega))
  · intro k l q1 q2 q3
    rcases Nat.lt_or_ge k (S (p + 1)).2.length with h | h
    · exact .inl h
    · rw [A.keep k (.inr h)] at q3
      rcases I.born k l q1 q2 q3 with h' | ⟨i, b, r1, r2, r3, r4⟩
      · omega
      · have := nal r3
        exact .inr ⟨i, b, .inl r1, by omega, r3, r4⟩
  · intro i b q1 q2 q3
    have q1' : D i := q1.resolve_right (nal q3)
    obtain ⟨l, e1, EO⟩ := I.early i b q1' (by omega) q3
    refine ⟨l, by rw [same q3]; exact e1, ⟨(EO.mt.mono hle).heap (A.frame _ EO.mt.lt fun n l' b' z1 z2 z3 _ => EO.apart n l' b' z1 z2 z3), EO.base, EO.es, EO.own, EO.live, ?_, EO.fresh, ?_⟩⟩
    case refine_2 =>
      rcases A.ice _ EO.cold with h | h | ⟨n, l', b', z1, z2, z3, z4, z5⟩
      · exact h
      · have := EO.mt.lt; omega
      · exact absurd z5 (EO.apart n l' b' z1 z2 z3)
    intro n l' x z1 z2 z3
    rcases Nat.lt_or_ge n (S p).2.length with h | h
    · obtain ⟨b0, y1, _, _, y2⟩ := A.alive n x h z2
      rw [A.keep n (.inl h)] at z1
      exact EO.apart n l' b0 z1 y1 (y2 z3)
    · rcases A.origin n l' x h z1 z2 z3 with h' | ⟨k, l0, b0, y1, y2, y3, y4, y5⟩
      · have := EO.mt.lt; omega
      · rw [← y5]; exact EO.apart k l0 b0 y1 y2 y3
  · intro i b1 i' b2 l l' q0 q1 q2 q3 q4 q5 q6 q7 q8
    rw [same q3] at q7
    rw [same q6] at q8
    exact I.eapart i b1 i' b2 l l' q0 (q1.resolve_right (nal q3)) (by omega) q3 (q4.resolve_right (nal q6)) (by omega) q6 q7 q8
  · intro i b q1 q2
    have q1' : ¬ D i := fun h => q1 (.inl h)
    have hn := I.pend i b q1' q2
    rw [same q2]
    refine ⟨hn.1, fun h => ?_⟩
    have hne := nal q2
    have hip : i < p := by omega
    rw [A.unreal _ (before q2 hip) hn.1]
    exact hn.2 hip
  · intro k hk
    rw [A.keep k (by omega)]
    exact I.keep k hk
  · intro g hg hn
    rw [A.frame g (Nat.lt_of_lt_of_le hg I.size)]
    · exact I.frame g hg hn
    · intro k l b q1 q2 q3 q4
      rcases back q1 q2 q3 q4 with h | ⟨k0, l0, b0, z1, z2, z3, z4, z5⟩
      · omega
      · rw [← z5]; exact hn k0 l0 b0 z1 z2 z3 z4
  · intro k l b q1 q2 q3 q4
    rcases Nat.lt_or_ge k (S p).2.length with h | h
    · obtain ⟨b0, y1, _, _, y2⟩ := A.alive k b h q3
      rw [A.keep k (.inl h)] at q2
      exact I.origin k l b0 q1 q2 y1 (y2 q4)
    · rcases A.origin k l b h q2 q3 q4 with h' | ⟨k1, l1, b1, y1, y2, y3, y4, y5⟩
      · exact .inl (Nat.le_trans I.size h')
      · rw [← y5]; exact back y1 y2 y3 y4
  · intro k q1 q2
    rw [A.unreal k (by omega) (by rw [I.keep k (.inl q1)]; exact q2)]
    exact I.unreal k q1 q2
  · intro g hg
    rcases I.ice g hg with h | h
    · rcases A.ice g h with h' | h' | ⟨n, l, b, z1, z2, z3, z4, z5⟩
      · exact .inl h'
      · exact .inr (.inl (Nat.le_trans I.size h'))
      · rcases back z1 z2 z3 z4 with h' | ⟨k0, l0, b0, y1, y2, y3, y4, y5⟩
        · exact .inr (.inl (by omega))
        · exact .inr (.inr ⟨k0, l0, b0, y1, y2, y3, y4, y5.trans z5⟩)
    · exact .inr h
end
end Go.Ab
