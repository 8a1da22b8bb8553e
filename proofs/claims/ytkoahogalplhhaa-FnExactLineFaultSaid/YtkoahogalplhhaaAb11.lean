/- Part of an own evaluator of Go code on numbered blocks, and of the proof that the machine does what it says; each theorem carries its own conditions. -/
import Derived.Test.YtkoahogalplhhaaAb10
set_option linter.unusedVariables false
set_option linter.unusedSimpArgs false
namespace Go.Ab

section
variable {C : Cfg} {call : CallF} {ops : List Oper} {B : Nat}
variable {S : Nat → Tm × Mem} {E : List Ev}
variable {ι0 : Emb} {a0 : Act} {w0 : World} {D : Nat → Prop} {p : Nat} {ι : Emb} {a : Act} {w : World}

theorem lookup_filter (T : Tm) (L : List Nat) (t : Nat) : (T.filter fun x => L.contains x.1).lookup t = if L.contains t = true then T.lookup t else none := by
  induction T with
  | nil => simp
  | cons x T ih =>
    obtain ⟨k, v⟩ := x
    by_cases hk : L.contains k = true
    · rw [List.filter_cons_of_pos (by exact hk), List.lookup_cons, List.lookup_cons, ih]
      by_cases e : t = k
      · subst e; simp only [beq_self_eq_true, hk, if_true]
      · have : (t == k) = false := by simpa using e
        rw [this]
    · rw [List.filter_cons_of_neg (by exact hk), List.lookup_cons, ih]
      by_cases e : t = k
      · subst e
        simp only [beq_self_eq_true]
        rw [if_neg hk, if_neg hk]
      · have : (t == k) = false := by simpa using e
        rw [this]

/-- No two operations write one temporary. -/
theorem Text.writer (X : Text C call ops S E) {i j : Nat} {o o' : Oper} {t : Nat} (h1 : ops[i]? = some o) (h2 : ops[j]? = some o') (d1 : o.dst = some t) (d2 : o'.dst = some t) : i = j := by
  by_cases e : i = j
  · exact e
  · exact absurd d2 (tmps_apart X.draw h1 h2 e d1).1

/-- What an operation that has not run looks at stands as in the order of the text. -/
theorem Inv.looks (X : Text C call ops S E) (I : Inv C ops S B ι0 a0 w0 D p ι a w) {j : Nat} {o : Oper} (ho : ops[j]? = some o) (hj : ¬ D j) (hpre : ∀ i, ahead (masks ops []) i j = true → D i) {t : Nat} (ht : t ∈ o.looksAt ops.toArray) {v : Value} (hv : (S j).1.lookup t = some v) :
    ∃ v', a.tmps[t]? = some v' ∧ VR ι v v' := by
  have hjl : j < ops.length := (List.getElem?_eq_some_iff.1 ho).1
  apply I.tmp
  by_cases h : ∃ i o', i < j ∧ ops[i]? = some o' ∧ o'.dst = some t
  · obtain ⟨i, o', hij, h1, h2⟩ := h
    left
    have ha := (tmps_apart X.draw h1 ho (by omega) h2).2 ht
    rw [if_pos hij] at ha
    refine ⟨i, o', hpre i ha, h1, h2, ?_⟩
    rw [← X.lookup_between (show i + 1 ≤ j by omega) (by omega)]
    · exact hv
    · intro k o2 g1 g2 g3 g4
      have := X.writer h1 g3 h2 g4
      omega
  · right
    refine ⟨fun i o' hi h1 h2 => ?_, ?_⟩
    · rcases Nat.lt_trichotomy i j with g | g | g
      · exact h ⟨i, o', g, h1, h2⟩
      · subst g; exact hj hi
      · have ha := (tmps_apart X.draw h1 ho (by omega) h2).2 ht
        rw [if_neg (by omega)] at ha
        exact hj (I.closed j i hi ha)
    · rw [← X.lookup_between (Nat.zero_le j) (by omega)]
      · exact hv
      · intro k o2 g1 g2 g3 g4
        exact h ⟨k, o2, g2, g3, g4⟩

/-- The temporaries that an operation looks at. -/
def lookT (ops : List Oper) (T : Tm) (o : Oper) : Tm := T.filter fun x => (o.looksAt ops.toArray).contains x.1

theorem lookT_ev {T : Tm} {o : Oper} : ∀ x ∈ o.op.operands, ev C (lookT ops T o) x = ev C T x := by
  intro x hx
  apply ev_congr
  rintro t rfl
  unfold lookT
  rw [lookup_filter, if_pos]
  simp only [List.contains_iff_mem]
  unfold Oper.looksAt
  rw [List.mem_append]
  left
  rw [List.mem_filterMap]
  exact ⟨.tmp t, by simpa using hx, rfl⟩

theorem Inv.lookT (X : Text C call ops S E) (I : Inv C ops S B ι0 a0 w0 D p ι a w) {j : Nat} {o : Oper} (ho : ops[j]? = some o) (hj : ¬ D j) (hpre : ∀ i, ahead (masks ops []) i j = true → D i) : TR ι (Ab.lookT ops (S j).1 o) a.tmps := by
  intro t v hv
  unfold Ab.lookT at hv
  rw [lookup_filter] at hv
  split at hv
  · rename_i hc
    exact I.looks X ho hj hpre (by simpa using hc) hv
  · cases hv

/-- What the temporaries hold once one more operation has run. -/
theorem Inv.tmp_next (X : Text C call ops S E) (I : Inv C ops S B ι0 a0 w0 D p ι a w) {N : Nat} (hN : N ≤ a.tmps.size) {j : Nat} {o : Oper} (ho : ops[j]? = some o) (hd : o.dst.all (· < N) = true)
    {u : Value} (hS : (S (j + 1)).1 = putD (S j).1 o.dst u) {ι' : Emb} (hle : ι.le ι') {u' : Value} (r : VR ι' u u') (t : Nat) (v : Value) (h : TdVal ops S (fun i => D i ∨ i = j) t v) :
    ∃ v', (a.put o.dst u').tmps[t]? = some v' ∧ VR ι' v v' := by
  by_cases hdt : o.dst = some t
  · have : v = u := by
      rcases h with ⟨i, o', _, h2, h3, h4⟩ | ⟨h1, _⟩
      · have := X.writer h2 ho h3 hdt
        subst this
        rw [hS, hdt] at h4
        simp [putD] at h4
        exact h4.symm
      · exact absurd hdt (h1 j o (.inr rfl) ho)
    subst this
    refine ⟨u', ?_, r⟩
    rw [hdt] at hd ⊢
    simp at hd
    have ht : t < a.tmps.size := by omega
    simp [Act.put, ht]
  · have : TdVal ops S D t v := by
      rcases h with ⟨i, o', h1, h2, h3, h4⟩ | ⟨h1, h2⟩
      · rcases h1 with h1 | h1
        · exact .inl ⟨i, o', h1, h2, h3, h4⟩
        · subst h1
          rw [ho] at h2
          cases h2
          exact absurd h3 hdt
      · exact .inr ⟨fun i o' h3 => h1 i o' (.inl h3), h2⟩
    obtain ⟨v', h1, h2⟩ := I.tmp t v this
    refine ⟨v', ?_, h2.mono hle⟩
    cases hdd : o.dst with
    | none => exact h1
    | some d =>
      simp only [Act.put]
      rw [Array.getElem?_setIfInBounds_ne]
      · exact h1
      · intro e; subst e; exact hdt hdd

theorem closed_next (hcl : ∀ i j, D j → ahead (masks ops []) i j = true → D i) {j : Nat} (hpre : ∀ i, ahead (masks ops []) i j = true → D i) : ∀ i k, (D k ∨ k = j) → ahead (masks ops []) i k = true → (D i ∨ i = j) := by
  intro i k h1 h2
  rcases h1 with h1 | h1
  · exact .inl (hcl i k h1 h2)
  · subst h1; exact .inl (hpre i h2)

/-- An operation that leaves memory and the world as they are. -/
theorem Inv.idle (X : Text C call ops S E) (I : Inv C ops S B ι0 a0 w0 D p ι a w) {N : Nat} (hN : N ≤ a.tmps.size) {j : Nat} {o : Oper} (ho : ops[j]? = some o) (hd : o.dst.all (· < N) = true) (hpre : ∀ i, ahead (masks ops []) i j = true → D i)
    (hc : cls C o ≠ .eff) (hmem : (S (j + 1)).2 = (S j).2) {u : Value} (hS : (S (j + 1)).1 = putD (S j).1 o.dst u) {u' : Value} (r : VR ι u u') :
    Inv C ops S B ι0 a0 w0 (fun i => D i ∨ i = j) p ι (a.put o.dst u') w := by
  have hjl : j < ops.length := (List.getElem?_eq_some_iff.1 ho).1
  have nal : ∀ b, ¬ IsAlloc C ops S j b := fun b hb => by
    obtain ⟨o, _, _, h3⟩ := hb
    rw [hmem] at h3
    have := congrArg List.length h3
    simp at this
  refine { lt := ?_, closed := closed_next I.closed hpre, ple := I.ple, effs := ?_, tmp := I.tmp_next X hN ho hd hS (Emb.le.refl _) r, dfr := (put_defers ..).trans I.dfr, tsz := (put_size ..).trans I.tsz, rep := I.rep, hB := I.hB, glob := I.glob, born := ?_, early := ?_, eapart := ?_, pend := ?_, keep := I.keep, frame := I.frame, origin := I.origin, unreal := I.unreal, fzle := I.fzle, ice := I.ice, os := I.os, tape := I.tape, output := I.output, size := I.size }
  · rintro i (h | h)
    · exact I.lt i h
    · omega
  · intro i o' h1 h2
    rw [← I.effs i o' h1 h2]
    refine ⟨fun h => ?_, .inl⟩
    rcases h with h | h
    · exact h
    · subst h
      rw [ho] at h1
      cases h1
      exact absurd h2 hc
  · intro k l h1 h2 h3
    rcases I.born k l h1 h2 h3 with h | ⟨i, b, g1, g2⟩
    · exact .inl h
    · exact .inr ⟨i, b, .inl g1, g2⟩
  · rintro i b (h1 | h1) h2 h3
    · exact I.early i b h1 h2 h3
    · subst h1; exact absurd h3 (nal b)
  · rintro i b i' b' l l' h0 (h1 | h1) h2 h3 (h4 | h4) h5 h6
    · exact I.eapart i b i' b' l l' h0 h1 h2 h3 h4 h5 h6
    · subst h4; exact absurd h6 (nal b')
    · subst h1; exact absurd h3 (nal b)
    · subst h1; exact absurd h3 (nal b)
  · intro i b h1 h2
    exact I.pend i b (fun h => h1 (.inl h)) h2

theorem Text.es_same (X : Text C call ops S E) {i j n : Nat} (hi : i ≤ ops.length) (hj : j ≤ ops.length) {b b' : Blk} (h1 : (S i).2[n]? = some b) (h2 : (S j).2[n]? = some b') : b.es = b'.es := by
  rcases Nat.le_total i j with h | h
  · obtain ⟨x, e1, e2, _⟩ := (X.grow_le h hj).old n b h1
    rw [h2] at e1; cases e1; exact e2.symm
  · obtain ⟨x, e1, e2, _⟩ := (X.grow_le h hi).old n b' h2
    rw [h1] at e1; cases e1; exact e2

theorem IsAlloc.at {i : Nat} {b : Blk} (h : IsAlloc C ops S i b) : (S (i + 1)).2[(S i).2.length]? = some b := by
  obtain ⟨o, _, _, e⟩ := h
  rw [e]; simp

theorem Inv.esok (X : Text C call ops S E) (I : Inv C ops S B ι0 a0 w0 D p ι a w) {j : Nat} (hj : j ≤ ops.length) : EsOK ι (esOf (S j).2) := by
  intro n l e hl he
  unfold esOf at he
  cases hb : (S j).2[n]? with
  | none => rw [hb] at he; cases he
  | some b =>
    rw [hb] at he
    cases he
    have hn := (List.getElem?_eq_some_iff.1 hb).1
    by_cases hp : n < (S p).2.length
    · have h1 : (S p).2[n]? = some (S p).2[n] := List.getElem?_eq_getElem hp
      rw [← I.rep.es n l _ hl h1]
      exact X.es_same I.ple hj h1 hb
    · have g0 := (X.grow_le (Nat.zero_le p) I.ple).len
      have g1 := (X.grow_le hj (Nat.le_refl _)).len
      rcases I.born n l (by omega) (by omega) hl with h | ⟨i, b', h1, h2, h3, h4⟩
      · exact absurd h hp
      · subst h4
        obtain ⟨l', e1, EO⟩ := I.early i b' h1 h2 h3
        rw [hl] at e1
        cases e1
        rw [← EO.es]
        exact X.es_same h3.lt hj h3.at hb

/-- One block alone. -/
def lonely (ι : Emb) (k : Nat) (b : Blk) : Mem := (List.range k).map (fun n => ⟨[], match ι n with | some l => l.es | none => 0, false, false⟩) ++ [b]

theorem lonely_at (ι : Emb) (k : Nat) (b : Blk) : (lonely ι k b)[k]? = some b := by
  unfold lonely
  rw [List.getElem?_append_right (by simp)]
  simp

theorem lonely_rep {m0 : Mem} (R0 : Rep B ι m0 w) {k : Nat} {b : Blk} (hown : b.own = true) (h : ∀ l, ι k = some l → Match ι b l w ∧ B ≤ l.g ∧ b.es = l.es ∧ ι.fz l.g = none) : Rep B ι (lonely ι k b) w := by
  have dead : ∀ n x, (lonely ι k b)[n]? = some x → (n = k ∧ x = b) ∨ (x.live = false ∧ ∀ l, ι n = some l → x.es = l.es) := by
    intro n x hx
    unfold lonely at hx
    rcases getElem?_snoc hx with ⟨h1, h2⟩ | ⟨h1, h2⟩
    · right
      simp at h1
      simp [h1] at h2
      subst h2
      exact ⟨rfl, fun l hl => by simp [hl]⟩
    · left
      exact ⟨by simpa using h1, h2⟩
  refine ⟨fun n l x h1 h2 h3 => ?_, fun n n' l l' x x' h0 h1 h2 h3 h4 h5 h6 h7 => ?_, fun n l x h1 h2 h3 h4 => ?_, fun n l x h1 h2 => ?_, R0.frozen, fun n l x h1 h2 h3 h4 => ?_, fun n l x h1 h2 h3 h4 => ?_⟩
  · rcases dead n x h2 with ⟨rfl, rfl⟩ | ⟨g, _⟩
    · exact (h l h1).1
    · rw [g] at h3; cases h3
  · rcases dead n x h3 with ⟨rfl, rfl⟩ | ⟨g, _⟩
    · rcases dead n' x' h4 with ⟨rfl, rfl⟩ | ⟨g, _⟩
      · exact absurd rfl h0
      · rw [g] at h6; cases h6
    · rw [g] at h5; cases h5
  · rcases dead n x h2 with ⟨rfl, rfl⟩ | ⟨g, _⟩
    · exact (h l h1).2.1
    · rw [g] at h3; cases h3
  · rcases dead n x h2 with ⟨rfl, rfl⟩ | ⟨_, g⟩
    · exact (h l h1).2.2.1
    · exact g l h1
  · rcases dead n x h2 with ⟨rfl, rfl⟩ | ⟨g, _⟩
    · exact (h l h1).2.2.2
    · rw [g] at h3; cases h3
  · rcases dead n x h2 with ⟨rfl, rfl⟩ | ⟨g, _⟩
    · rw [hown] at h4; cases h4
    · rw [g] at h3; cases h3

/-- What a load finds in the order of the text, it finds at its own time. -/
theorem Inv.reads (hC : CfgOK C) (X : Text C call ops S E) (I : Inv C ops S B ι0 a0 w0 D p ι a w) {j : Nat} {o : Oper} (ho : ops[j]? = some o) (hj : ¬ D j) (hpre : ∀ i, ahead (masks ops []) i j = true → D i) (hcl : cls C o = .read) {nm : Option Nat} {v : Value}
    (hs : ∃ T' m', aStep C call ops (S j).1 (S j).2 o = some (T', m', nm)) (h : rv C (S j).2 (S j).1 o = some (nm, v)) : ∃ v', VR ι v v' ∧ (execOp a.eval o).run C.P w = .ok (.value v') w := by
  have hjl : j < ops.length := (List.getElem?_eq_some_iff.1 ho).1
  have hT := I.lookT X ho hj hpre
  have h' : rv C (S j).2 (Ab.lookT ops (S j).1 o) o = some (nm, v) := by rw [rv_congr lookT_ev]; exact h
  have fin : ∀ m, Rep B ι m w → (∀ k, nm = some k → look m k = look (S j).2 k) → ∃ v', VR ι v v' ∧ (execOp a.eval o).run C.P w = .ok (.value v') w := fun m R hm =>
    read_goes hC R hT I.glob (rv_local h' hm)
  cases hnm : nm with
  | none => exact fin _ I.rep (fun k e => by rw [hnm] at e; cases e)
  | some k =>
    obtain ⟨T', m', hs⟩ := hs
    rw [hnm] at hs
    cases hb : (S j).2[k]? with
    | none =>
      refine fin [] ⟨fun n l b _ h => by simp at h, fun n n' l l' b b' _ _ _ h => by simp at h, fun n l b _ h => by simp at h, fun n l b _ h => by simp at h, I.rep.frozen, fun n l b _ h => by simp at h, fun n l b _ h => by simp at h⟩ fun k' e => ?_
      rw [hnm] at e
      cases e
      unfold look
      rw [hb]; rfl
    | some b =>
      have hkj := (List.getElem?_eq_some_iff.1 hb).1
      by_cases hkp : k < (S p).2.length
      · refine fin _ I.rep fun k' e => ?_
        rw [hnm] at e
        cases e
        rcases Nat.le_total p j with hpj | hpj
        · refine (X.block_between ho hcl hs hpj (by omega) hkp ?_).symm
          intro e q h1 h2 h3 h4
          rw [if_pos h2]
          cases hh : ahead (masks ops []) e j with
          | false => rfl
          | true =>
            have := (I.effs e q h3 h4).1 (hpre e hh)
            omega
        · refine X.block_between ho hcl hs hpj I.ple hkj ?_
          intro e q h1 h2 h3 h4
          rw [if_neg (by omega)]
          cases hh : ahead (masks ops []) j e with
          | false => rfl
          | true => exact absurd (I.closed j e ((I.effs e q h3 h4).2 h2) hh) hj
      · have hlook : look (lonely ι k { b with own := true }) k = look (S j).2 k := by
          unfold look
          rw [lonely_at, hb]; rfl
        refine fin (lonely ι k { b with own := true }) (lonely_rep I.rep rfl fun l hl => ?_) fun k' e => by
          rw [hnm] at e
          cases e
          exact hlook
        have g0 := (X.grow_le (Nat.zero_le p) I.ple).len
        have g1 := (X.grow_le (show j ≤ ops.length by omega) (Nat.le_refl _)).len
        rcases I.born k l (by omega) (by omega) hl with h | ⟨i, b', h1, h2, h3, h4⟩
        · exact absurd h hkp
        · subst h4
          obtain ⟨l', e1, EO⟩ := I.early i b' h1 h2 h3
          rw [hl] at e1
          cases e1
          have hij : i < j := by
            rcases Nat.lt_or_ge i j with h | h
            · exact h
            · have := (X.grow_le h (Nat.le_of_lt h3.lt)).len
              omega
          have hat := h3.at
          have hes := X.es_same h3.lt (Nat.le_of_lt hjl) hat hb
          have : look (S j).2 (S i).2.length = look (S (i + 1)).2 (S i).2.length := by
            refine X.block_between ho hcl hs (by omega) (by omega) (List.getElem?_eq_some_iff.1 hat).1 ?_
            intro e q g1 g2 g3 g4
            rw [if_pos g2]
            cases hh : ahead (masks ops []) e j with
            | false => rfl
            | true =>
              have := (I.effs e q g3 g4).1 (hpre e hh)
              omega
          unfold look at this
          rw [hb, hat] at this
          simp only [Option.map_some, Option.some.injEq, Prod.mk.injEq] at this
          obtain ⟨ec, el⟩ := this
          refine ⟨⟨?_, ?_⟩, EO.base, by simp only; rw [← hes]; exact EO.es, EO.cold⟩
          · obtain ⟨c, e, z, m1, m2, m3, m4, m5⟩ := EO.mt.ex
            refine ⟨c, e, z, m1, m2, by simp only; rw [ec]; exact m3, fun i v hv => m4 i v (by simp only at hv; rw [ec] at hv; exact hv), fun _ => m5 EO.own⟩
          · simp only; rw [ec]; exact EO.mt.flat
end
end Go.Ab
