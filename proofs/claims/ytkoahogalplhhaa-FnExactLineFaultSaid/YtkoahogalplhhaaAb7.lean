/- Part of an own evaluator of Go code on numbered blocks, and of the proof that the machine does what it says; each theorem carries its own conditions. -/
import Derived.Test.YtkoahogalplhhaaAb6
set_option linter.unusedVariables false
set_option linter.unusedSimpArgs false
namespace Go.Ab

section
variable {C : Cfg} {B : Nat} {ι : Emb} {T : Tm} {a : Act} {m : Mem} {w : World}

/-! ## One operation -/

/-- Memory only grows; a block keeps its kind, and one that may not be looked at stays so. -/
structure Grow (m m' : Mem) : Prop where
  len : m.length ≤ m'.length
  old : ∀ (k : Nat) b, m[k]? = some b → ∃ b', m'[k]? = some b' ∧ b'.es = b.es ∧ (b'.own = true → b.own = true) ∧ (b'.live = true → b.live = true)

theorem Grow.refl (m : Mem) : Grow m m := ⟨Nat.le_refl _, fun _ b h => ⟨b, h, rfl, id, id⟩⟩

theorem Grow.trans {m m1 m2 : Mem} (h : Grow m m1) (g : Grow m1 m2) : Grow m m2 :=
  ⟨Nat.le_trans h.len g.len, fun k b hb => by
    obtain ⟨b1, e1, e2, e3, e4⟩ := h.old k b hb
    obtain ⟨b2, f1, f2, f3, f4⟩ := g.old k b1 e1
    exact ⟨b2, f1, f2.trans e2, fun h => e3 (f3 h), fun h => e4 (f4 h)⟩⟩

theorem Grow.snoc (m : Mem) (b : Blk) : Grow m (m ++ [b]) :=
  ⟨by simp, fun k x hx => ⟨x, by rw [List.getElem?_append_left (List.getElem?_eq_some_iff.1 hx).1]; exact hx, rfl, id, id⟩⟩

theorem Grow.set {m : Mem} {n : Nat} {b b' : Blk} (hb : m[n]? = some b) (h1 : b'.es = b.es) (h2 : b'.own = true → b.own = true) (h3 : b'.live = true → b.live = true) : Grow m (m.set n b') :=
  ⟨by simp, fun k x hx => by
    by_cases e : n = k
    · subst e
      rw [hb] at hx
      cases hx
      exact ⟨b', by rw [List.getElem?_set_self (List.getElem?_eq_some_iff.1 hb).1], h1, h2, h3⟩
    · exact ⟨x, by rw [List.getElem?_set_ne e]; exact hx, rfl, id, id⟩⟩

/-- What a call of the evaluator promises of the machine's call. -/
def CallOK (C : Cfg) (call : CallF) : Prop := ∀ f args m v m', call f args m = some (v, m') →
  Grow m m' ∧
  (∃ fn, C.P.funcs[f]? = some fn ∧ (fn.name == "runtime.NumGoroutine") = false ∧ fn.body.isNone = false) ∧
  ∀ B ι w (args' : Array Value), Rep B ι m w → GlobOK C ι → B ≤ w.heap.size → VRL ι args args'.toList → Free ι m.length m'.length →
    Calls C.P f args' w fun e w' => ∃ v' ι', e = .returned v' ∧ After B ι m w ι' m' w' ∧ VR ι' v v'

theorem TR.put {ι : Emb} {T : Tm} {tmps : Array Value} (h : TR ι T tmps) {d : Nat} (hd : d < tmps.size) {v v' : Value} (r : VR ι v v') : TR ι ((d, v) :: T) (tmps.setIfInBounds d v') := by
  intro t u hu
  rw [List.lookup_cons] at hu
  by_cases e : t = d
  · subst e
    simp only [beq_self_eq_true] at hu
    cases hu
    exact ⟨v', by simp [hd], r⟩
  · have : (t == d) = false := by simpa using e
    rw [this] at hu
    obtain ⟨u', h1, h2⟩ := h t u hu
    exact ⟨u', by rw [Array.getElem?_setIfInBounds_ne (by omega)]; exact h1, h2⟩

theorem TR.putD {ι : Emb} {T : Tm} (h : TR ι T a.tmps) {N : Nat} (hN : N ≤ a.tmps.size) {d : Option Tmp} (hd : d.all (· < N) = true) {v v' : Value} (r : VR ι v v') : TR ι (putD T d v) (a.put d v').tmps := by
  cases d with
  | none => exact h
  | some d => exact h.put (by simp at hd; omega) r

theorem put_size (a : Act) (d : Option Tmp) (v : Value) : (a.put d v).tmps.size = a.tmps.size := by cases d <;> simp [Act.put]
theorem put_defers (a : Act) (d : Option Tmp) (v : Value) : (a.put d v).defers = a.defers := by cases d <;> rfl

theorem unit_VR {ι : Emb} : VR ι (.tuple #[]) undef := .tuple _ _ rfl (fun i x y h => by simp at h)

/-- An operation in the machine: what comes behind it follows from what it leaves. -/
def OpGoes (C : Cfg) (B : Nat) (ι : Emb) (m : Mem) (w : World) (m' : Mem) (v : Value) (o : Oper) (a : Act) : Prop :=
  ∀ (K : Act → World → Prop) (Q : Exit → Act → World → Prop), (∀ v' ι' w', After B ι m w ι' m' w' → VR ι' v v' → K (a.put o.dst v') w') → o.wp C.P a w K Q

theorem OpGoes.value {v : Value} {o : Oper} {m' : Mem} {v' : Value} {ι' : Emb} {w' : World} (h : (execOp a.eval o).run C.P w = .ok (.value v') w') (A : After B ι m w ι' m' w') (r : VR ι' v v') : OpGoes C B ι m w m' v o a := by
  intro K Q hK
  unfold Oper.wp
  rw [h, Oper.upon_value]
  exact hK v' ι' w' A r

theorem OpGoes.skip {o : Oper} {m' : Mem} {ι' : Emb} {w' : World} (h : (execOp a.eval o).run C.P w = .ok .skip w') (A : After B ι m w ι' m' w') : OpGoes C B ι m w m' (.tuple #[]) o a := by
  intro K Q hK
  unfold Oper.wp
  rw [h, Oper.upon_skip]
  exact hK undef ι' w' A unit_VR

variable (hC : CfgOK C)
include hC

theorem pure_goes (R : Rep B ι m w) (hT : TR ι T a.tmps) (hG : GlobOK C ι) {o : Oper} {v : Value} (h : pv C (esOf m) T o = some v) : OpGoes C B ι m w m v o a := by
  have hes : EsOK ι (esOf m) := by
    intro n l e hl he
    unfold esOf at he
    cases hb : m[n]? with
    | none => rw [hb] at he; cases he
    | some b =>
      rw [hb] at he
      cases he
      exact (R.es n l b hl hb).symm
  obtain ⟨v', r, hr⟩ := pv_sound hC hT hG hes h
  exact .value (hr w) (After.refl R) r

/-- What makes a block. -/
theorem av_sound (hT : TR ι T a.tmps) (hG : GlobOK C ι) {o : Oper} {name : Nat} {v : Value} {b : Blk} (h : av C name T o = some (v, b)) (w : World) : Makes C ι name v b (execOp a.eval o) w := by
  unfold av at h
  split at h
  · rename_i t ho
    cases hd : (C.ty t).d with
    | other => simp [hd] at h
    | _ =>
      simp only [hd, Option.some.injEq, Prod.mk.injEq] at h
      obtain ⟨rfl, rfl⟩ := h
      exact makes_alloc hC hd rfl o ho
  · rename_i t x ho
    split at h
    · rename_i u hx
      split at h
      · cases h
        exact makes_box hT hG hx ‹_› o ho
      · cases h
    · cases h
  · rename_i t len parts ho
    split at h
    · rename_i e ps ht hp
      have key : ∀ d, (C.ty e).d = d → isOther d = false → (if len * (C.ty e).size ≤ 16777216 ∧ ps.all (fun p => p.2.cells.toList.all flat) = true then
          (fillL (fun i => some (i * (C.ty e).size, (C.ty e).size)) (List.replicate len (C.ty e).zero).flatten ps).map fun cs => (Value.slice (some ⟨name, 0, none⟩) len len, (⟨cs, (C.ty e).size, true, true⟩ : Blk))
        else none) = some (v, b) → Makes C ι name v b (execOp a.eval o) w := by
        intro d hd ho' q
        split at q
        · rename_i hc
          cases hf : fillL (fun i => some (i * (C.ty e).size, (C.ty e).size)) (List.replicate len (C.ty e).zero).flatten ps with
          | none => rw [hf] at q; cases q
          | some cs =>
            rw [hf] at q
            cases q
            exact makes_buildSlice hC ht hd ho' hT hG hp hc.1 hc.2 hf o ho
        · cases q
      cases hd : (C.ty e).d with
      | other => simp [hd] at h
      | _ => exact key _ hd rfl (by simpa [hd] using h)
    · cases h
  · rename_i t x y ho
    split at h
    · rename_i e l c ht hx hy
      have key : ∀ d, (C.ty e).d = d → isOther d = false → (if 0 ≤ l ∧ l ≤ c ∧ c * (C.ty e).bytes ≤ 281474976710656 ∧ c ≤ 281474976710656 then
          some (Value.slice (some ⟨name, 0, none⟩) l.toNat c.toNat, (⟨(List.replicate c.toNat (C.ty e).zero).flatten, (C.ty e).size, true, true⟩ : Blk))
        else none) = some (v, b) → Makes C ι name v b (execOp a.eval o) w := by
        intro d hd ho' q
        split at q
        · rename_i hc
          cases q
          exact makes_makeSlice hC ht hd ho' hT hG hx hy hc.1 hc.2.1 hc.2.2.1 hc.2.2.2 o ho
        · cases q
      cases hd : (C.ty e).d with
      | other => simp [hd] at h
      | _ => exact key _ hd rfl (by simpa [hd] using h)
    · cases h
  · rename_i src dst x ho
    split at h
    · rename_i e s hs ht hx
      split at h
      · rename_i he
        cases h
        exact makes_convert hC hs ht he hT hG hx o ho
      · cases h
    · cases h
  · cases h

theorem alloc_goes (R : Rep B ι m w) (hB : B ≤ w.heap.size) (hfree : ι m.length = none) (hT : TR ι T a.tmps) (hG : GlobOK C ι) {o : Oper} {v : Value} {b : Blk} (h : av C m.length T o = some (v, b)) :
    OpGoes C B ι m w (m ++ [b]) v o a := by
  obtain ⟨v', w', c, e, fz, h1, h2, h3, h4, h5, h6, h7, h8, h9, h10, h11, h12⟩ := (av_sound hC hT hG h w).ex
  exact .value h1 (After.alloc R hB h10 hfree h11 h3 h4 h5 h2 h6 h7 h8) (h12 _ (Emb.upd_same ..))


theorem rvConv_sound (R : Rep B ι m w) (hT : TR ι T a.tmps) (hG : GlobOK C ι) {o : Oper} {src dst : Nat} {x : Operand} (ho : o.op = .convert src dst x) {n : Option Nat} {v : Value} (h : rv C m T o = some (n, v)) :
    ∃ v', VR ι v v' ∧ (execOp a.eval o).run C.P w = .ok (.value v') w := by
  unfold rv at h
  simp only [ho] at h
  split at h
  · rename_i e p len cap hs hd hx
    split at h
    · rename_i he
      have hr := ev_sound (a := a) hT hG hx
      generalize hxe : a.eval x = x' at hr
      split at h
      · cases h
        cases hr with
        | slNil a' _ =>
        refine ⟨_, .string _, ?_⟩
        cases a' <;> simp [execOp, ho, hxe, Go.convert, run_underlying (under_slice hC hs), run_underlying (under_str hC hd), run_underlying (under_int hC he), Conv.bytesToString, loadCells, loadCellsFrom]
      · rename_i q
        split at h
        · rename_i cs hrd
          split at h
          · rename_i l hb
            cases h
            cases hr with
            | sl k off _ acap loc off' ccap h1 h2 h3 h4 h5 =>
            obtain ⟨hl, _, cs', hv, hc⟩ := rd_sound R h1 hrd
            have hg := bytes_of_ground hv hb
            subst hg
            refine ⟨_, .string _, ?_⟩
            have hload : (loadCells ⟨loc.g, off', none⟩ len).run C.P w = .ok cs'.toArray w := by
              by_cases h0 : len = 0
              · subst h0
                have : cs' = [] := List.eq_nil_of_length_eq_zero hl
                subst this
                simp [loadCells, loadCellsFrom]
              · have e1 : off' = loc.sh + off := h5.resolve_left (by omega)
                subst e1
                exact loadCells_run hl hc
            have hz : (ByteArray.empty.data ++ l.toArray) = l.toArray := by simp
            simp [execOp, ho, hxe, Go.convert, run_underlying (under_slice hC hs), run_underlying (under_str hC hd), run_underlying (under_int hC he), Conv.bytesToString, hload]
            rw [bytesLoop_run _ (fun _ _ => rfl) cs' ByteArray.empty l hb, hz]
            simp
          · cases h
        · cases h
    · cases h
  · rename_i e len cs hs hd hx
    split at h
    · rename_i he
      have hr := ev_sound (a := a) hT hG hx
      generalize hxe : a.eval x = x' at hr
      split at h
      · rename_i hsz
        split at h
        · rename_i l hb
          cases h
          have hz : (ByteArray.empty.data ++ l.toArray) = l.toArray := by simp
          cases hr with
          | ro _ _ g0 off0 ccap c0 hz0 hs0 hl hr0 hfl =>
            obtain ⟨cs', hv, hcl, hc⟩ := fz_cells R hz0 hs0 hr0 cs.size (Nat.le_refl _)
            have ht : cs.toList.take cs.size = cs.toList := by apply List.take_of_length_le; simp
            rw [ht] at hv
            have hg := bytes_of_ground hv hb
            have hload := loadCells_run (C := C) hcl hc
            rw [hsz] at hload
            rw [← hg] at hb
            refine ⟨_, .string _, ?_⟩
            simp [execOp, ho, hxe, Go.convert, run_underlying (under_slice hC hs), run_underlying (under_str hC hd), run_underlying (under_int hC he), Conv.bytesToString, hload]
            rw [bytesLoop_run _ (fun _ _ => rfl) cs' ByteArray.empty l hb, hz]
            simp
          | ro0 a' ccap ha =>
            simp only [bytesOf] at hb
            cases hb
            have hemp : (ByteArray.empty : ByteArray) = { data := #[] } := rfl
            refine ⟨_, .string _, ?_⟩
            cases a' <;> simp [execOp, ho, hxe, Go.convert, run_underlying (under_slice hC hs), run_underlying (under_str hC hd), run_underlying (under_int hC he), Conv.bytesToString, loadCells, loadCellsFrom, hemp]
        · cases h
      · cases h
    · cases h
  · cases h

theorem read_goes (R : Rep B ι m w) (hT : TR ι T a.tmps) (hG : GlobOK C ι) {o : Oper} {n : Option Nat} {v : Value} (h : rv C m T o = some (n, v)) :
    ∃ v', VR ι v v' ∧ (execOp a.eval o).run C.P w = .ok (.value v') w := by
  cases ho : o.op with
  | load t x => exact rvLoad_sound hC R hT hG ho h
  | convert src dst x => exact rvConv_sound hC R hT hG ho h
  | _ => simp [rv, ho] at h

theorem eff_goes {call : CallF} (hcall : CallOK C call) (R : Rep B ι m w) (hB : B ≤ w.heap.size) (hT : TR ι T a.tmps) (hG : GlobOK C ι) {o : Oper} {v : Value} {m' : Mem} (h : wv C call m T o = some (v, m'))
    (hF : Free ι m.length m'.length) : OpGoes C B ι m w m' v o a := by
  unfold wv at h
  split at h
  · rename_i t x y ho
    split at h
    · rename_i p u hp hu
      split at h
      · rename_i m1 hs
        cases h
        obtain ⟨w', h1, h2⟩ := store_sound hC R (ev_sound (a := a) hT hG hp) (ev_sound (a := a) hT hG hu) hs
        exact .skip (by simp [execOp, ho, h1]) h2
      · cases h
    · cases h
  · rename_i c ho
    have args : ∀ {xs : List Value}, evL C T c.args.toList = some xs → VRL ι xs (c.args.map a.eval).toList := fun h => by
      have := evL_sound (a := a) hT hG h
      simpa using this
    split at h
    · rename_i s x hc hx
      have hr := args hx
      generalize hargs : (c.args.map a.eval).toList = ys at hr
      obtain ⟨s', ys1, rfl, r1, h2⟩ := hr.cases_cons
      obtain ⟨x', ys2, rfl, r2, h3⟩ := h2.cases_cons
      cases h3.cases_nil
      have ha : c.args.map a.eval = #[s', x'] := by rw [← Array.toArray_toList (xs := c.args.map a.eval), hargs]
      split at h
      · rename_i t xt ht hxt
        have hfree : m' = m ∨ ι m.length = none := by
          rcases Nat.lt_or_ge m.length m'.length with hlt | hge
          · exact .inr (hF m.length (Nat.le_refl _) hlt)
          · left
            exact append_same h hge
        rcases hfree with rfl | hfree
        · obtain ⟨v', w', e1, e2, e3⟩ := append_sound_same hC R ht hxt r1 r2 h o.type
          exact .value (by simp [execOp, ho, resolve, hc, invoke, Go.builtin, ha, e1]) e2 e3
        · obtain ⟨v', w', ι', e1, e2, e3⟩ := append_sound hC R hB hfree ht hxt r1 r2 h o.type
          exact .value (by simp [execOp, ho, resolve, hc, invoke, Go.builtin, ha, e1]) e2 e3
      · cases h
    · rename_i d s hc hx
      have hr := args hx
      generalize hargs : (c.args.map a.eval).toList = ys at hr
      obtain ⟨s', ys1, rfl, r1, h2⟩ := hr.cases_cons
      obtain ⟨x', ys2, rfl, r2, h3⟩ := h2.cases_cons
      cases h3.cases_nil
      have ha : c.args.map a.eval = #[s', x'] := by rw [← Array.toArray_toList (xs := c.args.map a.eval), hargs]
      split at h
      · rename_i t xt ht hxt
        obtain ⟨w', e1, e2, e3⟩ := copy_sound hC R r1 r2 ht h o.type
        exact .value (by simp [execOp, ho, resolve, hc, invoke, Go.builtin, ha, e1]) e3 e2
      · cases h
    · rename_i x hc hx
      have hr := args hx
      generalize hargs : (c.args.map a.eval).toList = ys at hr
      obtain ⟨s', ys1, rfl, r1, h2⟩ := hr.cases_cons
      cases h2.cases_nil
      have ha : c.args.map a.eval = #[s'] := by rw [← Array.toArray_toList (xs := c.args.map a.eval), hargs]
      split at h
      · rename_i t ht
        obtain ⟨w', e1, e2, e3⟩ := clear_sound hC R r1 ht h o.type
        exact .value (by simp [execOp, ho, resolve, hc, invoke, Go.builtin, ha, e1]) e3 e2
      · cases h
    · rename_i f vs hc hx
      split at h
      · rename_i g first captured hf
        have hr := args hx
        have hfr := ev_sound (a := a) hT hG hf
        generalize hfe : a.eval f = f' at hfr
        cases hfr with
        | func _ _ first' _ captured' g1 g2 g3 g4 =>
        obtain ⟨_, ⟨fn, e1, e2, e3⟩, hgo⟩ := hcall _ _ _ _ _ h
        have hall : VRL ι (first.toList ++ vs ++ captured.toList) (first' ++ c.args.map a.eval ++ captured').toList := by
          simp only [Array.toList_append]
          exact ((VR.arr g1 g2).append hr).append (VR.arr g3 g4)
        have hcalls := hgo B ι w (first' ++ c.args.map a.eval ++ captured') R hG hB hall hF
        intro K Q hK
        unfold Oper.wp
        have hrun : (execOp a.eval o).run C.P w = .ok (.enter g (first' ++ c.args.map a.eval ++ captured')) w := by
          have e2' : ¬ fn.name = "runtime.NumGoroutine" := by simpa using e2
          have e3' : ¬ fn.body = none := by
            intro e
            rw [e] at e3
            cases e3
          simp [execOp, ho, resolve, hc, hfe, Deferred.ofValue, invoke, callFunc, e1, e2', e3']
        rw [hrun, Oper.upon_enter]
        refine hcalls.mono fun e w' he => ?_
        obtain ⟨v', ι', rfl, A, r⟩ := he
        exact hK v' ι' w' A r
      · cases h
    · cases h
  · cases h

/-! ## Memory grows -/

omit hC in
theorem wr_grow {n o : Nat} {vs : List Value} {m' : Mem} (h : wr m n o vs = some m') : Grow m m' ∧ m'.length = m.length := by
  unfold wr at h
  split at h
  · cases h; exact ⟨.refl _, rfl⟩
  · split at h
    · rename_i b hb
      split at h
      · cases h; exact ⟨.set hb rfl id id, by simp⟩
      · cases h
    · cases h

omit hC in
theorem wrmap_grow {n o : Nat} {vs : List Value} {v0 v : Value} {m' : Mem} (h : (wr m n o vs).map (fun m' => (v0, m')) = some (v, m')) : Grow m m' := by
  cases hw : wr m n o vs with
  | none => rw [hw] at h; cases h
  | some m1 => rw [hw] at h; cases h; exact (wr_grow hw).1

omit hC in
theorem append_grows {t xt : Nat} {s x v : Value} {m' : Mem} (h : appendOf C m t xt s x = some (v, m')) : Grow m m' := by
  unfold appendOf at h
  split at h
  · split at h
    · cases h
    · split at h
      · cases h
      · unfold appendIn at h
        split at h
        · split at h
          · cases h; exact .refl _
          · split at h
            · cases h; exact .snoc _ _
            · cases h
        · split at h
          · rename_i b hb
            split at h
            · rename_i hc
              split at h
              · cases h
                exact (Grow.set (b' := { b with live := false }) hb rfl id (fun h => by cases h)).trans (.snoc _ _)
              · cases h
            · cases h
          · cases h
        · cases h
  · cases h

omit hC in
theorem copy_grows {t xt : Nat} {s x v : Value} {m' : Mem} (h : copyOf C m t xt s x = some (v, m')) : Grow m m' := by
  unfold copyOf at h
  split at h
  · split at h
    · cases h
    · unfold copyAny at h
      split at h
      · unfold copyIn at h
        split at h
        · split at h
          · exact wrmap_grow h
          · cases h
        · split at h
          · cases h; exact .refl _
          · cases h
      · unfold copyRo at h
        split at h
        · split at h
          · exact wrmap_grow h
          · cases h
        · cases h
      · unfold copyStr at h
        split at h
        · split at h
          · exact wrmap_grow h
          · cases h
        · cases h
      · cases h
  · cases h

omit hC in
theorem clear_grows {t : Nat} {x v : Value} {m' : Mem} (h : clearOf C m t x = some (v, m')) : Grow m m' := by
  unfold clearOf at h
  split at h
  · split at h
    · cases h
    · unfold clearIn at h
      split at h
      · cases h; exact .refl _
      · split at h
        · cases h
        · exact wrmap_grow h
  · cases h

omit hC in
theorem store_grows {t : Nat} {p x : Value} {m' : Mem} (h : storeOf C m t p x = some m') : Grow m m' := by
  unfold storeOf at h
  split at h
  · cases h
  · split at h
    · exact (wr_grow h).1
    · cases h
  · cases h

def CallGrow (call : CallF) : Prop := ∀ f args m v m', call f args m = some (v, m') → Grow m m'

omit hC in
theorem wv_grows {call : CallF} (hcall : CallGrow call) {o : Oper} {v : Value} {m' : Mem} (h : wv C call m T o = some (v, m')) : Grow m m' := by
  unfold wv at h
  split at h
  · split at h
    · split at h
      · cases h; exact store_grows ‹_›
      · cases h
    · cases h
  · split at h
    · split at h
      · exact append_grows h
      · cases h
    · split at h
      · exact copy_grows h
      · cases h
    · split at h
      · exact clear_grows h
      · cases h
    · split at h
      · exact hcall _ _ _ _ _ h
      · cases h
    · cases h
  · cases h

omit hC in
theorem aOp_grows {call : CallF} (hcall : CallGrow call) {o : Oper} {v : Value} {m' : Mem} {n : Option Nat} (h : aOp C call T m o = some (v, m', n)) : Grow m m' := by
  unfold aOp at h
  split at h
  · split at h
    · cases h; exact .refl _
    · cases h
  · split at h
    · cases h; exact .snoc _ _
    · cases h
  · split at h
    · cases h; exact .refl _
    · cases h
  · split at h
    · cases h; exact wv_grows hcall ‹_›
    · cases h

omit hC in
theorem aStep_grows {call : CallF} (hcall : CallGrow call) {ops : List Oper} {o : Oper} {T' : Tm} {m' : Mem} {n : Option Nat} (h : aStep C call ops T m o = some (T', m', n)) : Grow m m' := by
  unfold aStep at h
  split at h
  · cases h
  · cases h; exact .refl _
  · split at h
    · cases h; exact aOp_grows hcall ‹_›
    · cases h

omit hC in
theorem aOps_grows {call : CallF} (hcall : CallGrow call) {ops : List Oper} : ∀ {os : List Oper} {T : Tm} {m : Mem} {E : List Ev} {T' : Tm} {m' : Mem}, aOps C call ops os T m = some (E, T', m') → Grow m m'
  | [], T, m, E, T', m', h => by simp only [aOps] at h; cases h; exact .refl _
  | o :: os, T, m, E, T', m', h => by
    simp only [aOps] at h
    split at h
    · cases h
    · rename_i hs
      split at h
      · cases h
      · cases h
        exact (aStep_grows hcall hs).trans (aOps_grows hcall ‹_›)
end
end Go.Ab
