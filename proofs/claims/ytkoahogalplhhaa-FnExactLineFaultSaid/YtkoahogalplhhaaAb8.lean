/- Part of an own evaluator of Go code on numbered blocks, and of the proof that the machine does what it says; each theorem carries its own conditions. -/
import Derived.Test.YtkoahogalplhhaaAb7
set_option linter.unusedVariables false
set_option linter.unusedSimpArgs false
namespace Go.Ab

section
variable {C : Cfg} {B : Nat} {ι : Emb} {T : Tm} {a : Act} {m : Mem} {w : World}

/-! ## A region in the order of the text -/

theorem wanted_sound {ops : List Oper} {o : Oper} {b : Bool} (h : wantedA ops T o = some b)
    (hT : ∀ t v, (∃ j w g, o.guard = some (j, w) ∧ ops[j]? = some g ∧ g.dst = some t) → T.lookup t = some v → ∃ v', a.tmps[t]? = some v' ∧ VR ι v v') :
    Region.wanted o (yielded ops.toArray a.tmps) = b := by
  unfold wantedA at h
  unfold Region.wanted
  cases hg : o.guard with
  | none => rw [hg] at h; cases h; rfl
  | some p =>
    obtain ⟨j, want⟩ := p
    rw [hg] at h
    simp only at h
    split at h
    · rename_i g hj
      split at h
      · rename_i t ht
        have Y : ∀ v, T.lookup t = some v → ∃ v', VR ι v v' ∧ yielded ops.toArray a.tmps j = (match v' with | .bool b => some b | _ => none) := by
          intro v hv
          obtain ⟨v', h1, h2⟩ := hT t v ⟨j, want, g, hg, hj, ht⟩ hv
          refine ⟨v', h2, ?_⟩
          unfold yielded
          simp [hj, ht, h1]
          cases v' <;> rfl
        split at h
        · rename_i b' hv
          cases h
          obtain ⟨v', r, e⟩ := Y _ hv
          cases r
          simp only
          rw [e]
          simp only
          cases b' <;> cases want <;> rfl
        · rename_i vs hv
          cases h
          obtain ⟨v', r, e⟩ := Y _ hv
          cases r
          simp only
          rw [e]
          rfl
        · cases h
      · cases h
    · cases h

/-- What stands behind a step. -/
def Behind (B : Nat) (ι : Emb) (m : Mem) (w : World) (a : Act) (T' : Tm) (m' : Mem) (a' : Act) (w' : World) : Prop :=
  ∃ ι', After B ι m w ι' m' w' ∧ TR ι' T' a'.tmps ∧ a'.defers = a.defers ∧ a'.tmps.size = a.tmps.size

variable (hC : CfgOK C)
include hC

theorem aOp_goes {call : CallF} (hcall : CallOK C call) (R : Rep B ι m w) (hB : B ≤ w.heap.size) (hT : TR ι T a.tmps) (hG : GlobOK C ι) {o : Oper} {v : Value} {m' : Mem} {n : Option Nat} (h : aOp C call T m o = some (v, m', n))
    (hF : Free ι m.length m'.length) : OpGoes C B ι m w m' v o a := by
  unfold aOp at h
  split at h
  · split at h
    · cases h; exact pure_goes hC R hT hG ‹_›
    · cases h
  · split at h
    · cases h
      exact alloc_goes hC R hB (hF _ (Nat.le_refl _) (by simp)) hT hG ‹_›
    · cases h
  · split at h
    · cases h
      obtain ⟨v', r, hr⟩ := read_goes hC R hT hG ‹_›
      exact .value hr (After.refl R) r
    · cases h
  · split at h
    · cases h
      exact eff_goes hC hcall R hB hT hG ‹_› hF
    · cases h

theorem step_goes {call : CallF} (hcall : CallOK C call) {ops : List Oper} {i : Nat} {o : Oper} (ho : ops[i]? = some o) (R : Rep B ι m w) (hB : B ≤ w.heap.size) (hT : TR ι T a.tmps) (hG : GlobOK C ι) {T' : Tm} {m' : Mem} {n : Option Nat}
    (h : aStep C call ops T m o = some (T', m', n)) (hF : Free ι m.length m'.length) {N : Nat} (hN : N ≤ a.tmps.size) (hd : o.dst.all (· < N) = true) (K : Act → World → Prop) (Q : Exit → Act → World → Prop)
    (hK : ∀ a' w', Behind B ι m w a T' m' a' w' → K a' w') : wpOp C.P ops.toArray Q i K a w := by
  have hi : ops.toArray[i]? = some o := by simpa using ho
  have hW := fun b (h : wantedA ops T o = some b) => wanted_sound (a := a) (ι := ι) h (fun t v _ hv => hT t v hv)
  unfold wpOp
  simp only [hi]
  unfold aStep at h
  split at h
  · cases h
  · rename_i hw
    cases h
    rw [hW _ hw]
    simp only [Bool.false_eq_true, if_false]
    exact hK _ _ ⟨ι, After.refl R, hT.putD hN hd unit_VR, put_defers .., put_size ..⟩
  · rename_i hw
    split at h
    · cases h
      rw [hW _ hw]
      simp only [if_true]
      left
      refine aOp_goes hC hcall R hB hT hG ‹_› hF K Q fun v' ι' w' A r => hK _ _ ⟨ι', A, ?_, put_defers .., put_size ..⟩
      exact (hT.mono (A.le hF)).putD hN hd r
    · cases h

omit hC in
theorem call_grow {call : CallF} (hcall : CallOK C call) : CallGrow call := fun f args m v m' h => (hcall f args m v m' h).1

theorem ops_go {call : CallF} (hcall : CallOK C call) {ops : List Oper} {N : Nat} (hd : ops.all (fun o => o.dst.all (· < N)) = true) : ∀ (os pre : List Oper) (T : Tm) (m : Mem) (ι : Emb) (a : Act) (w : World) (E : List Ev) (T2 : Tm) (m2 : Mem), ops = pre ++ os →
    aOps C call ops os T m = some (E, T2, m2) → Rep B ι m w → B ≤ w.heap.size → TR ι T a.tmps → GlobOK C ι → Free ι m.length m2.length → N ≤ a.tmps.size →
    ∀ Q : Exit → Act → World → Prop, (∀ a' w', Behind B ι m w a T2 m2 a' w' → Q .normal a' w') → wpOps C.P ops.toArray Q (List.range' pre.length os.length) a w := by
  intro os
  induction os with
  | nil =>
    intro pre T m ι a w E T2 m2 _ h R hB hT hG hF hN Q hQ
    simp only [aOps] at h
    cases h
    simp only [List.length_nil, List.range'_zero, wpOps]
    exact hQ _ _ ⟨ι, After.refl R, hT, rfl, rfl⟩
  | cons o os ih =>
    intro pre T m ι a w E T2 m2 he h R hB hT hG hF hN Q hQ
    simp only [aOps] at h
    split at h
    · cases h
    · rename_i T1 m1 n1 hs
      split at h
      · cases h
      · rename_i E2 T3 m3 hrest
        cases h
        have hoi : ops[pre.length]? = some o := by rw [he]; simp
        have g1 := aStep_grows (call_grow hcall) hs
        have g2 := aOps_grows (call_grow hcall) hrest
        have hdo : o.dst.all (· < N) = true := by
          rw [List.all_eq_true] at hd
          exact hd o (by rw [he]; simp)
        rw [List.length_cons, List.range'_succ, wpOps_cons]
        refine step_goes hC hcall hoi R hB hT hG hs (fun k h1 h2 => hF k h1 (Nat.lt_of_lt_of_le h2 g2.len)) hN hdo _ Q ?_
        rintro a' w' ⟨ι', A, hT', e1, e2⟩
        have hle := A.le (fun k h1 h2 => hF k h1 (Nat.lt_of_lt_of_le h2 g2.len))
        have := ih (pre ++ [o]) T1 m1 ι' a' w' E2 T2 m2 (by rw [he]; simp) hrest A.rep (Nat.le_trans hB A.size) hT' (hG.mono hle) (fun k h1 h2 => by
          rw [A.keep k (.inr h1)]
          exact hF k (Nat.le_trans g1.len h1) h2) (by rw [e2]; exact hN) Q (fun a2 w2 hb => by
          obtain ⟨ι2, A2, hT2, f1, f2⟩ := hb
          exact hQ a2 w2 ⟨ι2, A.trans A2, hT2, f1.trans e1, f2.trans e2⟩)
        simpa using this

/-! ## What an operation looks at -/

omit hC in
theorem ev_congr {T T' : Tm} {x : Operand} (h : ∀ t, x = .tmp t → T.lookup t = T'.lookup t) : ev C T x = ev C T' x := by
  cases x with
  | tmp t => exact h t rfl
  | _ => rfl

omit hC in
theorem evL_congr {T T' : Tm} : ∀ {xs : List Operand}, (∀ x ∈ xs, ev C T x = ev C T' x) → evL C T xs = evL C T' xs
  | [], _ => rfl
  | x :: xs, h => by
    simp only [evL]
    rw [h x (by simp), evL_congr fun y hy => h y (by simp [hy])]

omit hC in
theorem evP_congr {T T' : Tm} : ∀ {xs : List (Nat × Operand)}, (∀ x ∈ xs.map (·.2), ev C T x = ev C T' x) → evP C T xs = evP C T' xs
  | [], _ => rfl
  | (i, x) :: xs, h => by
    simp only [evP]
    rw [h x (by simp), evP_congr fun y hy => h y (by simp at hy ⊢; exact .inr hy)]

omit hC in
theorem pv_congr {es : Nat → Option Nat} {T T' : Tm} {o : Oper} (h : ∀ x ∈ o.op.operands, ev C T x = ev C T' x) : pv C es T o = pv C es T' o := by
  unfold pv
  cases ho : o.op <;> rw [ho] at h <;> simp only [Op.operands] at h <;> (try dsimp only)
  case build t ps => rw [evP_congr (T := T) (T' := T') (xs := ps.toList) (fun x hx => h x (by simpa using hx))]
  case makeFunc fn first captured =>
    rw [evL_congr (T := T) (T' := T') (xs := first.toList) (fun x hx => h x (by simp at hx ⊢; exact .inl hx)), evL_congr (T := T) (T' := T') (xs := captured.toList) (fun x hx => h x (by simp at hx ⊢; exact .inr hx))]
  case call c => rw [evL_congr (T := T) (T' := T') (xs := c.args.toList) (fun x hx => h x (by simp [Call.operands] at hx ⊢; exact .inr hx))]
  case slice t x lo hi mx =>
    cases mx with
    | none =>
      have e1 : ev C T x = ev C T' x := h x (by simp)
      have e2 : lo.map (ev C T) = lo.map (ev C T') := by
        cases lo with
        | none => rfl
        | some y => simp only [Option.map_some]; rw [h y (by simp)]
      have e3 : hi.map (ev C T) = hi.map (ev C T') := by
        cases hi with
        | none => rfl
        | some y => simp only [Option.map_some]; rw [h y (by simp)]
      simp only [e1, e2, e3]
    | some mv =>
      cases hi with
      | none => rfl
      | some hv =>
        have e1 : ev C T x = ev C T' x := h x (by simp)
        have e2 : lo.map (ev C T) = lo.map (ev C T') := by
          cases lo with
          | none => rfl
          | some y => simp only [Option.map_some]; rw [h y (by simp)]
        have e3 : ev C T hv = ev C T' hv := h hv (by simp)
        have e4 : ev C T mv = ev C T' mv := h mv (by simp)
        simp only [e1, e2, e3, e4]
  case move x => exact h x (by simp)
  case assign x => exact h x (by simp)
  case pick c x y => rw [h c (by simp), h x (by simp), h y (by simp)]
  case binOp op t x y t' => rw [h x (by simp), h y (by simp)]
  case unOp op t x => rw [h x (by simp)]
  case convert s d x => rw [h x (by simp)]
  case extract x i => rw [h x (by simp)]
  case field t x f => rw [h x (by simp)]
  case fieldAddr t x f => rw [h x (by simp)]
  case indexAddr t x i => rw [h x (by simp), h i (by simp)]
  case index t x i => rw [h x (by simp), h i (by simp)]
  case nilCheck x => rw [h x (by simp)]

omit hC in
theorem av_congr {name : Nat} {T T' : Tm} {o : Oper} (h : ∀ x ∈ o.op.operands, ev C T x = ev C T' x) : av C name T o = av C name T' o := by
  unfold av
  cases ho : o.op <;> rw [ho] at h <;> simp only [Op.operands] at h <;> (try dsimp only)
  case buildSlice t n ps => rw [evP_congr (T := T) (T' := T') (xs := ps.toList) (fun x hx => h x (by simpa using hx))]
  case box t x => rw [h x (by simp)]
  case makeSlice t x y => rw [h x (by simp), h y (by simp)]
  case convert s d x => rw [h x (by simp)]

omit hC in
theorem rv_congr {T T' : Tm} {o : Oper} (h : ∀ x ∈ o.op.operands, ev C T x = ev C T' x) : rv C m T o = rv C m T' o := by
  unfold rv
  cases ho : o.op <;> rw [ho] at h <;> simp only [Op.operands] at h <;> (try dsimp only)
  case load t x => rw [h x (by simp)]
  case convert s d x => rw [h x (by simp)]

omit hC in
theorem wv_congr {call : CallF} {T T' : Tm} {o : Oper} (h : ∀ x ∈ o.op.operands, ev C T x = ev C T' x) : wv C call m T o = wv C call m T' o := by
  unfold wv
  cases ho : o.op <;> rw [ho] at h <;> simp only [Op.operands] at h <;> (try dsimp only)
  case store t x y => rw [h x (by simp), h y (by simp)]
  case call c =>
    rw [evL_congr (T := T) (T' := T') (xs := c.args.toList) (fun x hx => h x (by simp [Call.operands] at hx ⊢; exact .inr hx))]
    cases hc : c.callee with
    | value f =>
      have e := h f (by simp [Call.operands, hc])
      cases evL C T' c.args.toList with
      | none => rfl
      | some vs => simp only [e]
    | invoke r s =>
      cases evL C T' c.args.toList with
      | none => rfl
      | some vs => rfl
    | builtin b =>
      cases evL C T' c.args.toList with
      | none => cases b <;> rfl
      | some vs => rcases vs with _ | ⟨x, _ | ⟨y, _ | ⟨z, t⟩⟩⟩ <;> cases b <;> rfl

omit hC in
/-- What is read hangs on the one block alone. -/
theorem rv_local {m m' : Mem} {o : Oper} {n : Option Nat} {v : Value} (h : rv C m T o = some (n, v)) (hm : ∀ k, n = some k → (m'[k]?).map (fun x => (x.cells, x.live)) = (m[k]?).map (fun x => (x.cells, x.live))) : rv C m' T o = some (n, v) := by
  have R : ∀ k o s, ((m'[k]?).map (fun x => (x.cells, x.live)) = (m[k]?).map (fun x => (x.cells, x.live))) → rd m' k o s = rd m k o s := fun k o s e => by
    unfold rd
    cases h1 : m'[k]? <;> cases h2 : m[k]? <;> rw [h1, h2] at e <;> simp only [Option.map_some, Option.map_none, Option.some.injEq, Prod.mk.injEq, reduceCtorEq] at e
    simp only [e.1, e.2]
  unfold rv at h ⊢
  split at h
  · rename_i t0 a0 ho
    split at h
    · rename_i p hp
      split at h
      · cases h
      · rename_i fs hd
        split at h
        · rename_i cs hr
          cases h
          rw [R _ _ _ (hm _ rfl), hr]
        · cases h
      · rename_i hno hns
        cases hr : one (rd m p.block p.off 1) with
        | none => rw [hr] at h; cases h
        | some u =>
          rw [hr] at h
          cases h
          have := R p.block p.off 1 (hm _ rfl)
          rw [← this] at hr
          cases hd : (C.ty _).d <;> first | exact absurd hd hno | exact absurd hd (hns _) | simp [hr]
    · exact h
    · cases h
  · rename_i s0 d0 a0 ho
    split at h
    · rename_i e p len cap hs hd hx
      split at h
      · rename_i he
        split at h
        · exact h
        · rename_i q
          split at h
          · rename_i cs hr
            split at h
            · rename_i l hb
              cases h
              simp only [R _ _ _ (hm _ rfl), hr, hb]
            · cases h
          · cases h
      · cases h
    · exact h
    · cases h
  · cases h
end
end Go.Ab
