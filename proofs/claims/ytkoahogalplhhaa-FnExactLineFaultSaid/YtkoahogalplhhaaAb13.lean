/- Part of an own evaluator of Go code on numbered blocks, and of the proof that the machine does what it says; each theorem carries its own conditions. -/
import Derived.Test.YtkoahogalplhhaaAb12
set_option linter.unusedVariables false
set_option linter.unusedSimpArgs false
namespace Go.Ab

section
variable {C : Cfg} {call : CallF} {ops : List Oper} {B : Nat}
variable {S : Nat → Tm × Mem} {E : List Ev}
variable {ι0 : Emb} {a0 : Act} {w0 : World} {D : Nat → Prop} {p : Nat} {ι : Emb} {a : Act} {w : World}

/-- Any operation that is ready. -/
theorem Inv.step (hC : CfgOK C) (hcall : CallOK C call) (X : Text C call ops S E) (I : Inv C ops S B ι0 a0 w0 D p ι a w) {N : Nat} (hN : N ≤ a.tmps.size) {j : Nat} {o : Oper} (ho : ops[j]? = some o) (hd : o.dst.all (· < N) = true)
    (hj : ¬ D j) (hpre : ∀ i, ahead (masks ops []) i j = true → D i) {K : Act → World → Prop} {Q : Exit → Act → World → Prop}
    (hK : ∀ p' ι' a' w', Inv C ops S B ι0 a0 w0 (fun i => D i ∨ i = j) p' ι' a' w' → K a' w') : wpOp C.P ops.toArray Q j K a w := by
  have hi : ops.toArray[j]? = some o := by simpa using ho
  have hjl : j < ops.length := (List.getElem?_eq_some_iff.1 ho).1
  obtain ⟨nm, hs, _⟩ := X.step j o ho
  have hT := I.lookT X ho hj hpre
  unfold wpOp
  simp only [hi]
  have hW := fun b (h : wantedA ops (S j).1 o = some b) => wanted_sound (a := a) (ι := ι) h (fun t v hx hv => by
    obtain ⟨k, wt, g, g1, g2, g3⟩ := hx
    refine I.looks X ho hj hpre ?_ hv
    unfold Oper.looksAt
    rw [List.mem_append]
    right
    simp [g1, g2, g3])
  -- the frontier stands at this operation, if it changes memory
  have front : cls C o = .eff → Inv C ops S B ι0 a0 w0 D j ι a w := by
    intro hc
    have hpj : p ≤ j := by
      rcases Nat.lt_or_ge j p with h | h
      · exact absurd ((I.effs j o ho hc).2 h) hj
      · exact h
    refine I.adv_to X hpj (by omega) fun e q h1 h2 h3 h4 => ?_
    have := (I.effs e q h3 h4).1 (hpre e (effs_ordered X.draw h3 ho h2 h4 hc))
    omega
  have hs' := hs
  unfold aStep at hs
  split at hs
  · cases hs
  · rename_i hw
    simp only [Option.some.injEq, Prod.mk.injEq] at hs
    obtain ⟨s1, s2, _⟩ := hs
    rw [hW _ hw]
    simp only [Bool.false_eq_true, if_false]
    by_cases hc : cls C o = .eff
    · have I' := front hc
      refine hK _ _ _ _ (I'.effect X hN ho hd hpre hc s1.symm (u' := undef) (ι' := ι) (w' := w) ?_ (Emb.le.refl _) unit_VR)
      rw [← s2]
      exact After.refl I'.rep
    · exact hK _ _ _ _ (I.idle X hN ho hd hpre hc s2.symm s1.symm unit_VR)
  · rename_i hw
    split at hs
    · rename_i v m' n' hop
      simp only [Option.some.injEq, Prod.mk.injEq] at hs
      obtain ⟨s1, s2, s3⟩ := hs
      subst s3
      rw [hW _ hw]
      simp only [if_true]
      left
      have hop' := hop
      unfold aOp at hop
      split at hop
      · rename_i hc
        split at hop
        · rename_i u hv
          simp only [Option.some.injEq, Prod.mk.injEq] at hop
          obtain ⟨e1, e2, e3⟩ := hop
          subst e1
          rw [← pv_congr (lookT_ev (ops := ops))] at hv
          obtain ⟨v', r, hr⟩ := pv_sound hC hT I.glob (I.esok X (by omega)) hv
          unfold Oper.wp
          rw [hr w, Oper.upon_value]
          exact hK _ _ _ _ (I.idle X hN ho hd hpre (by rw [hc]; decide) (by rw [← s2, e2]) s1.symm r)
        · cases hop
      · rename_i hc
        split at hop
        · rename_i u b hv
          simp only [Option.some.injEq, Prod.mk.injEq] at hop
          obtain ⟨e1, e2, e3⟩ := hop
          subst e1
          rw [← av_congr (lookT_ev (ops := ops))] at hv
          obtain ⟨v', w', c, e, fz, h1, h2, h3, h4, h5, h6, h7, h8, h9, h10, h11, h12⟩ := (av_sound hC hT I.glob hv w).ex
          have hA : IsAlloc C ops S j b := ⟨o, ho, hc, by rw [← s2, e2]⟩
          obtain ⟨ι', I'⟩ := I.makes X hN ho hd hj hpre hA s1.symm h2 h3 h4 h5 h6 h7 h8 h9 h10 h11 (u' := v') (fun ι' h _ => h12 ι' h)
          unfold Oper.wp
          rw [h1, Oper.upon_value]
          exact hK _ _ _ _ I'
        · cases hop
      · rename_i hc
        split at hop
        · rename_i n u hv
          simp only [Option.some.injEq, Prod.mk.injEq] at hop
          obtain ⟨e1, e2, e3⟩ := hop
          subst e1
          subst e3
          obtain ⟨v', r, hr⟩ := I.reads hC X ho hj hpre hc ⟨_, _, hs'⟩ hv
          unfold Oper.wp
          rw [hr, Oper.upon_value]
          exact hK _ _ _ _ (I.idle X hN ho hd hpre (by rw [hc]; decide) (by rw [← s2, e2]) s1.symm r)
        · cases hop
      · rename_i hc
        split at hop
        · rename_i u m1 hv
          simp only [Option.some.injEq, Prod.mk.injEq] at hop
          obtain ⟨e1, e2, e3⟩ := hop
          subst e1
          subst e2
          have I' := front hc
          rw [← wv_congr (lookT_ev (ops := ops))] at hv
          rw [s2] at hv
          have g0 := (X.grow_le (Nat.zero_le j) (by omega)).len
          have g2 := (X.grow_le (show j + 1 ≤ ops.length by omega) (Nat.le_refl _)).len
          have hF : Free ι (S j).2.length (S (j + 1)).2.length := by
            intro k h1 h2
            cases hk : ι k with
            | none => rfl
            | some l =>
              rcases I'.born k l (by omega) (by omega) hk with h | ⟨i, b, q1, q2, q3, q4⟩
              · omega
              · have : i ≠ j := fun h => by subst h; exact hj q1
                have := (X.grow_le (show j + 1 ≤ i by omega) (Nat.le_of_lt q3.lt)).len
                omega
          refine eff_goes hC hcall I'.rep I'.hB hT I'.glob hv hF K Q fun v' ι' w' A r => ?_
          exact hK _ _ _ _ (I'.effect X hN ho hd hpre hc s1.symm A (A.le hF) r)
        · cases hop
    · cases hs

def countOff (listed : Array Bool) : Nat := (listed.toList.filter (!·)).length

theorem countOff_set {listed : Array Bool} {i : Nat} (h : listed[i]? = some false) : countOff (listed.setIfInBounds i true) + 1 = countOff listed := by
  unfold countOff
  have hi : i < listed.size := (Array.getElem?_eq_some_iff.1 h).1
  have hl : listed.toList[i]? = some false := by simpa using h
  have : (listed.setIfInBounds i true).toList = listed.toList.set i true := by simp
  rw [this]
  generalize listed.toList = l at hl
  clear this hi h
  induction l generalizing i with
  | nil => simp at hl
  | cons x l ih =>
    cases i with
    | zero =>
      simp at hl
      subst hl
      simp
    | succ i =>
      simp only [List.getElem?_cons_succ] at hl
      have := ih hl
      cases x <;> simp_all

theorem countOff_zero {listed : Array Bool} (h : countOff listed = 0) {i : Nat} (hi : i < listed.size) : listed[i]? = some true := by
  unfold countOff at h
  rw [List.length_eq_zero_iff, List.filter_eq_nil_iff] at h
  have h1 : listed[i]? = some listed[i] := Array.getElem?_eq_getElem hi
  have := h listed[i] (by simp)
  rw [h1]
  simpa using this

theorem countOff_pos {listed : Array Bool} (h : countOff listed ≠ 0) : ∃ i : Nat, listed[i]? = some false ∧ ∀ k : Nat, k < i → listed[k]? = some true := by
  have : ∃ i : Nat, listed[i]? = some false := by
    apply Classical.byContradiction
    intro hn
    apply h
    unfold countOff
    rw [List.length_eq_zero_iff, List.filter_eq_nil_iff]
    intro x hx
    obtain ⟨i, hi, rfl⟩ := List.getElem_of_mem hx
    have h1 : listed[i]? = some listed[i] := by simp at hi; exact Array.getElem?_eq_getElem hi
    intro e
    apply hn
    exact ⟨i, by rw [h1]; simp at e; simp [e]⟩
  obtain ⟨i, hi⟩ := this
  induction i using Nat.strongRecOn with
  | _ i ih =>
    by_cases hall : ∀ k : Nat, k < i → listed[k]? = some true
    · exact ⟨i, hi, hall⟩
    · have : ∃ k : Nat, k < i ∧ listed[k]? ≠ some true := by
        apply Classical.byContradiction
        intro hn
        apply hall
        intro k hk
        apply Classical.byContradiction
        intro h'
        exact hn ⟨k, hk, h'⟩
      obtain ⟨k, hk, h'⟩ := this
      have hks : k < listed.size := by
        have := (Array.getElem?_eq_some_iff.1 hi).1
        omega
      refine ih k hk ?_
      rw [Array.getElem?_eq_getElem hks] at h' ⊢
      cases hv : listed[k] <;> simp_all

theorem any_goes (hC : CfgOK C) (hcall : CallOK C call) (X : Text C call ops S E) {N : Nat} (hN : N ≤ a0.tmps.size) (hd : ops.all (fun o => o.dst.all (· < N)) = true) {Q : Exit → Act → World → Prop}
    (hQ : ∀ ι a w, Inv C ops S B ι0 a0 w0 (fun i => i < ops.length) ops.length ι a w → Q .normal a w) :
    ∀ (fuel : Nat) (listed : Array Bool) (p : Nat) (ι : Emb) (a : Act) (w : World), listed.size = ops.length → countOff listed = fuel → Inv C ops S B ι0 a0 w0 (fun i => listed[i]? = some true) p ι a w →
      wpAny C.P .any ops.toArray Q fuel listed a w := by
  intro fuel
  induction fuel with
  | zero =>
    intro listed p ι a w hsz hct I
    have hall : ∀ i, i < ops.length → listed[i]? = some true := fun i hi => countOff_zero hct (by omega)
    refine ⟨?_, ?_⟩
    · rw [List.eq_nil_iff_forall_not_mem]
      intro i hi
      rw [mem_ready] at hi
      obtain ⟨h0, o, ho, _⟩ := hi
      have hil : i < ops.length := by
        have := (Array.getElem?_eq_some_iff.1 ho).1
        simpa using this
      have := hall i hil
      simp [this] at h0
    · have I' := I.adv_to X I.ple (Nat.le_refl _) fun e q h1 h2 h3 h4 => by
        have := (I.effs e q h3 h4).1 (hall e h2)
        omega
      have hD : (fun i => listed[i]? = some true) = fun i => i < ops.length := by
        funext i
        exact propext ⟨fun h => by have := (Array.getElem?_eq_some_iff.1 h).1; omega, hall i⟩
      rw [hD] at I'
      exact hQ _ _ _ I'
  | succ fuel ih =>
    intro listed p ι a w hsz hct I
    refine ⟨fun hr => ?_, fun j hj => ?_⟩
    · exfalso
      obtain ⟨i, h1, h2⟩ := countOff_pos (listed := listed) (by omega)
      have hil : i < ops.length := by
        have := (Array.getElem?_eq_some_iff.1 h1).1
        omega
      have : i ∈ Region.ready .any ops.toArray listed := by
        rw [mem_ready]
        refine ⟨by simp [h1], ops[i], by simp [hil], fun e he hb => ?_⟩
        have := edges_lt X.draw (List.getElem?_eq_getElem hil) (by simpa using he) hb
        simp [h2 _ this]
      rw [hr] at this
      cases this
    · rw [mem_ready] at hj
      obtain ⟨h0, o, ho, hall⟩ := hj
      have ho' : ops[j]? = some o := by simpa using ho
      have hjl : j < ops.length := (List.getElem?_eq_some_iff.1 ho').1
      have hjf : listed[j]? = some false := by
        have h1 : listed[j]? = some listed[j] := Array.getElem?_eq_getElem (by omega)
        simp [Array.getD_eq_getD_getElem?, h1] at h0
        rw [h1, h0]
      have hdo : o.dst.all (· < N) = true := by
        rw [List.all_eq_true] at hd
        exact hd o (List.mem_of_getElem? ho')
      have on : ∀ k, listed.getD k false = true → listed[k]? = some true := by
        intro k hk
        rw [Array.getD_eq_getD_getElem?] at hk
        cases hv : listed[k]? with
        | none => simp [hv] at hk
        | some b => simp [hv] at hk; rw [hk]
      refine I.step hC hcall X (by rw [I.tsz]; exact hN) ho' hdo (by rw [hjf]; simp) ?_ ?_
      · intro i hi
        obtain ⟨o2, e, g1, g2, g3, g4⟩ := ahead_sound hjl hi
        rw [ho'] at g1
        cases g1
        have hon := on _ (hall e (by simpa using g2) g3)
        rcases g4 with g4 | g4
        · rw [← g4]; exact hon
        · exact I.closed i e.on hon g4
      · intro p' ι' a' w' I'
        refine ih _ p' ι' a' w' (by simpa using hsz) ?_ ?_
        · have := countOff_set hjf
          omega
        · have hD : (fun i => listed[i]? = some true ∨ i = j) = fun i => (listed.setIfInBounds j true)[i]? = some true := by
            funext i
            rw [Array.getElem?_setIfInBounds]
            by_cases e : j = i
            · subst e
              simp
              omega
            · have : ¬ i = j := fun h => e h.symm
              simp [e, this]
          rw [hD] at I'
          exact I'

/-- A region, whatever its order. -/
theorem region_goes (hC : CfgOK C) (hcall : CallOK C call) {N : Nat} {draw : Bool} {T T' : Tm} {m m' : Mem} (h : aRegion C call N ops draw T m = some (T', m')) (R : Rep B ι m w) (hB : B ≤ w.heap.size) (hT : TR ι T a.tmps) (hG : GlobOK C ι)
    (hF : Free ι m.length m'.length) (hN : N ≤ a.tmps.size) (id : Nat) (Q : Exit → Act → World → Prop) (hQ : ∀ a' w', Behind B ι m w a T' m' a' w' → Q .normal a' w') : (Code.region id ops.toArray draw).wp C.P Q a w := by
  unfold aRegion at h
  split at h
  · rename_i hd
    split at h
    · cases h
    · rename_i E T1 m1 ha
      cases draw with
      | false =>
        simp only [Bool.false_eq_true, if_false] at h
        cases h
        refine wp_region ?_
        have := ops_go hC hcall hd ops [] T m ι a w E T' m' rfl ha R hB hT hG hF hN Q hQ
        simpa [List.range_eq_range'] using this
      | true =>
        simp only [if_true] at h
        split at h
        · rename_i hs
          cases h
          refine wp_region_any hC.mixed ?_
          obtain ⟨S, s0, s1, s2⟩ := text_of ops T m E T' m' ha
          have X : Text C call ops S E := ⟨s2, call_grow hcall, hs.1, hs.2⟩
          have e1 : (S 0).2 = m := by rw [s0]
          have e1' : (S 0).1 = T := by rw [s0]
          have e2 : (S ops.length).2 = m' := by rw [s1]
          have e2' : (S ops.length).1 = T' := by rw [s1]
          have hg := X.grow_le (Nat.zero_le _) (Nat.le_refl ops.length)
          refine any_goes (B := B) (ι0 := ι) (a0 := a) (w0 := { w with drawn := w.drawn + 1 }) hC hcall X hN hd ?_ _ _ 0 ι a _ (by simp) (by simp [countOff]) ?_
          · intro ι' a' w' I
            refine hQ a' w' ⟨ι', ?_, ?_, I.dfr, I.tsz⟩
            · have hr := I.rep
              rw [e2] at hr
              refine { len := by rw [← e1, ← e2]; exact hg.len, keep := fun n hn => I.keep n (by rw [e1, e2]; exact hn), rep := hr, frame := fun g h1 h2 => I.frame g h1 (by rw [e1]; exact h2), origin := fun n l b h1 h2 h3 h4 => ?_, alive := fun k b' h1 h2 => ?_, fz := I.fzle, ice := fun g hg => ?_, unreal := fun k h1 h2 => ?_, os := I.os, tape := I.tape, output := I.output, size := I.size }
              · have := I.origin n l b (by rw [e1]; exact h1) h2 (by rw [e2]; exact h3) h4
                rw [e1] at this
                exact this
              · have hk : m[k]? = some m[k] := List.getElem?_eq_getElem _
                obtain ⟨b2, q1, q2, q3, q4⟩ := hg.old k m[k] (by rw [e1]; exact hk)
                rw [e2, h2] at q1
                cases q1
                exact ⟨_, hk, q2, q3, q4⟩
              · have := I.ice g hg
                rw [e1] at this
                exact this
              · have := I.unreal k (by rw [e1]; exact h1) h2
                rw [e1, e2] at this
                exact this
            · intro t v hv
              apply I.tmp
              rw [← e2'] at hv
              by_cases hx : ∃ i o', i < ops.length ∧ ops[i]? = some o' ∧ o'.dst = some t
              · obtain ⟨i, o', q1, q2, q3⟩ := hx
                left
                refine ⟨i, o', q1, q2, q3, ?_⟩
                rw [← X.lookup_between (show i + 1 ≤ ops.length by omega) (Nat.le_refl _)]
                · exact hv
                · intro k o2 g1 g2 g3 g4
                  have := X.writer q2 g3 q3 g4
                  omega
              · right
                refine ⟨fun i o' q1 q2 q3 => hx ⟨i, o', q1, q2, q3⟩, ?_⟩
                rw [← X.lookup_between (Nat.zero_le _) (Nat.le_refl _)]
                · exact hv
                · intro k o2 g1 g2 g3 g4
                  exact hx ⟨k, o2, g2, g3, g4⟩
          · have hR0 : Rep B ι (S 0).2 { w with drawn := w.drawn + 1 } := by rw [e1]; exact (After.same (w' := { w with drawn := w.drawn + 1 }) R rfl rfl rfl rfl).rep
            refine { lt := ?_, closed := ?_, ple := Nat.zero_le _, effs := ?_, tmp := ?_, dfr := rfl, tsz := rfl, rep := hR0, hB := hB, glob := hG, born := ?_, early := ?_, eapart := ?_, pend := ?_, keep := fun _ _ => rfl, frame := fun _ _ _ => rfl, origin := ?_, unreal := fun _ _ _ => rfl, fzle := fun _ _ h => h, ice := fun _ h => .inl h, os := rfl, tape := rfl, output := rfl, size := Nat.le_refl _ }
            · intro i hi; simp [Array.getElem?_replicate] at hi
            · intro i j hj; simp [Array.getElem?_replicate] at hj
            · intro i o h1 h2; simp [Array.getElem?_replicate]
            · intro t v hv
              rcases hv with ⟨i, o, hi, _⟩ | ⟨_, hv⟩
              · simp [Array.getElem?_replicate] at hi
              · rw [e1'] at hv; exact hT t v hv
            · intro k l h1 h2 h3
              rw [e1] at h1
              rw [e2] at h2
              rw [hF k h1 h2] at h3
              cases h3
            · intro i b hi; simp [Array.getElem?_replicate] at hi
            · intro i b i' b' l l' _ hi; simp [Array.getElem?_replicate] at hi
            · intro i b _ hA
              refine ⟨?_, fun h => by omega⟩
              have g0 := (X.grow_le (Nat.zero_le i) (Nat.le_of_lt hA.lt)).len
              have g1 := (X.grow_le (show i + 1 ≤ ops.length from hA.lt) (Nat.le_refl _)).len
              have g2 := (List.getElem?_eq_some_iff.1 hA.at).1
              rw [e1] at g0
              rw [e2] at g1
              exact hF _ g0 (by omega)
            · intro k l b h1 _ h3
              have := (List.getElem?_eq_some_iff.1 h3).1
              omega
        · cases h
  · cases h
end
end Go.Ab
