/- Part of an own evaluator of Go code on numbered blocks, and of the proof that the machine does what it says; each theorem carries its own conditions. -/
import Derived.Test.YtkoahogalplhhaaAb3b
set_option linter.unusedVariables false
set_option linter.unusedSimpArgs false
namespace Go.Ab

section
variable {C : Cfg} {ι : Emb} {T : Tm} {a : Act}

theorem guard_int (op : BinOp) (t : Nat) (x y : Operand) (k k' : IntKind) (i j : Int) (w : World) : (eqGuard op t x y (.int k i) (.int k' j)).run C.P w = .ok () w := by
  unfold eqGuard
  cases op <;> simp

theorem guard_str (op : BinOp) (t : Nat) (x y : Operand) (i j : ByteArray) (w : World) : (eqGuard op t x y (.string i) (.string j)).run C.P w = .ok () w := by
  unfold eqGuard
  cases op <;> simp

/-- No interface values, no structs: nothing is asked ahead. -/
def plainPair : Value → Value → Bool
  | .nilIface, .nilIface => false
  | .agg _, .agg _ => false
  | _, _ => true

theorem guard_plain (op : BinOp) (t : Nat) (x y : Operand) (u v : Value) (h : plainPair u v = true) (w : World) : (eqGuard op t x y u v).run C.P w = .ok () w := by
  unfold eqGuard
  cases op <;> simp only [Bool.not_true, Bool.not_false, Bool.false_eq_true, if_true, if_false, Sem.run_pure] <;>
    (cases u <;> cases v <;> first | (simp; done) | (simp [plainPair] at h))

variable (hC : CfgOK C)
include hC

omit hC in
theorem eq_bool {t : Nat} (hu : C.P.underlying t = some .bool) (p q : Bool) (w : World) : (Op.equal t (.bool p) (.bool q)).run C.P w = .ok (p == q) w := by
  unfold Op.equal; rw [show Op.maxDepth = 9999 + 1 from rfl]; unfold Op.equalIn; simp [run_underlying hu]

omit hC in
theorem eq_nil_slice {t e n c n' c' : Nat} (hu : C.P.underlying t = some (.slice e)) (p : Option Addr) (w : World) : (Op.equal t (.slice none n c) (.slice p n' c')).run C.P w = .ok p.isNone w := by
  unfold Op.equal; rw [show Op.maxDepth = 9999 + 1 from rfl]; unfold Op.equalIn; simp [run_underlying hu]

omit hC in
theorem eq_slice_nil {t e n c n' c' : Nat} (hu : C.P.underlying t = some (.slice e)) (p : Addr) (w : World) : (Op.equal t (.slice (some p) n c) (.slice none n' c')).run C.P w = .ok false w := by
  unfold Op.equal; rw [show Op.maxDepth = 9999 + 1 from rfl]; unfold Op.equalIn; simp [run_underlying hu]

omit hC in
theorem eq_nil_ptr {t e : Nat} (hu : C.P.underlying t = some (.pointer e)) (p : Option Addr) (w : World) : (Op.equal t (.pointer none) (.pointer p)).run C.P w = .ok p.isNone w := by
  unfold Op.equal; rw [show Op.maxDepth = 9999 + 1 from rfl]; unfold Op.equalIn; simp [run_underlying hu]

omit hC in
theorem eq_ptr_nil {t e : Nat} (hu : C.P.underlying t = some (.pointer e)) (p : Addr) (w : World) : (Op.equal t (.pointer (some p)) (.pointer none)).run C.P w = .ok false w := by
  unfold Op.equal; rw [show Op.maxDepth = 9999 + 1 from rfl]; unfold Op.equalIn; simp [run_underlying hu]

omit hC in
theorem eq_nil_nil_func {t : Nat} {p q : Array TypeId} {r : Bool} (hu : C.P.underlying t = some (.func p q r)) (w : World) : (Op.equal t .nilFunc .nilFunc).run C.P w = .ok true w := by
  unfold Op.equal; rw [show Op.maxDepth = 9999 + 1 from rfl]; unfold Op.equalIn; simp [run_underlying hu]

omit hC in
theorem eq_nil_func {t : Nat} {p q : Array TypeId} {r : Bool} (hu : C.P.underlying t = some (.func p q r)) (f : Fn) (x y : Array Value) (w : World) : (Op.equal t .nilFunc (.func f x y)).run C.P w = .ok false w := by
  unfold Op.equal; rw [show Op.maxDepth = 9999 + 1 from rfl]; unfold Op.equalIn; simp [run_underlying hu]

omit hC in
theorem eq_func_nil {t : Nat} {p q : Array TypeId} {r : Bool} (hu : C.P.underlying t = some (.func p q r)) (f : Fn) (x y : Array Value) (w : World) : (Op.equal t (.func f x y) .nilFunc).run C.P w = .ok false w := by
  unfold Op.equal; rw [show Op.maxDepth = 9999 + 1 from rfl]; unfold Op.equalIn; simp [run_underlying hu]

theorem eqv_sound {t : Nat} {x x' y y' : Value} {b : Bool} (hx : VR ι x x') (hy : VR ι y y') (h : eqv C t x y = some b) :
    (∀ op p q w, (eqGuard op t p q x' y').run C.P w = .ok () w) ∧ (∀ w, (Op.equal t x' y').run C.P w = .ok b w) ∧
    (∀ w, (binOp .eql t x' y').run C.P w = .ok (.bool b) w) ∧ (∀ w, (binOp .neq t x' y').run C.P w = .ok (.bool (!b)) w) := by
  have fin : ∀ (hp : plainPair x' y' = true) (hnb : ∀ w, (binOp .eql t x' y').run C.P w = ((Op.equal t x' y') >>= fun r => pure (Value.bool r) : Sem Value).run C.P w)
      (hnn : ∀ w, (binOp .neq t x' y').run C.P w = ((Op.equal t x' y') >>= fun r => pure (Value.bool (!r)) : Sem Value).run C.P w) (he : ∀ w, (Op.equal t x' y').run C.P w = .ok b w),
      (∀ op p q w, (eqGuard op t p q x' y').run C.P w = .ok () w) ∧ (∀ w, (Op.equal t x' y').run C.P w = .ok b w) ∧
      (∀ w, (binOp .eql t x' y').run C.P w = .ok (.bool b) w) ∧ (∀ w, (binOp .neq t x' y').run C.P w = .ok (.bool (!b)) w) := by
    intro hp hnb hnn he
    exact ⟨fun op p q w => guard_plain op t p q _ _ hp w, he, fun w => by rw [hnb]; simp [he], fun w => by rw [hnn]; simp [he]⟩
  unfold eqv at h
  split at h
  · rename_i hd
    split at h
    · cases h; cases hx; cases hy
      exact fin rfl (fun _ => rfl) (fun _ => rfl) (fun w => eq_bool (under_bool hC hd) _ _ w)
    · cases h
  · rename_i hd
    obtain ⟨e, hu⟩ := under_ptr hC hd
    split at h
    · cases h
      cases hx
      cases hy with
      | ptrNil => exact fin rfl (fun _ => rfl) (fun _ => rfl) (fun w => eq_nil_ptr hu _ w)
      | ptr n o l h1 => exact fin rfl (fun _ => rfl) (fun _ => rfl) (fun w => eq_nil_ptr hu _ w)
    · cases h
      cases hy
      cases hx with
      | ptrNil => rename_i hno; exact (hno rfl).elim
      | ptr n o l h1 => exact fin rfl (fun _ => rfl) (fun _ => rfl) (fun w => eq_ptr_nil hu _ w)
    · cases h
  · rename_i hd
    obtain ⟨p, q, r, hu⟩ := under_func hC hd
    split at h
    · cases h; cases hx; cases hy
      exact fin rfl (fun _ => rfl) (fun _ => rfl) (fun w => eq_nil_nil_func hu w)
    · cases h; cases hx; cases hy
      exact fin rfl (fun _ => rfl) (fun _ => rfl) (fun w => eq_nil_func hu _ _ _ w)
    · cases h; cases hx; cases hy
      exact fin rfl (fun _ => rfl) (fun _ => rfl) (fun w => eq_func_nil hu _ _ _ w)
    · cases h
  · rename_i fs hd
    split at h
    · rename_i xs ys
      split at h
      · rename_i hm
        have ground : ∀ (fs : List (Nat × Nat)) (xs ys xs' ys' : Array Value) (b : Bool), VRL ι xs.toList xs'.toList → VRL ι ys.toList ys'.toList → eqF C fs xs ys = some b → eqF C fs xs' ys' = some b := by
          intro fs
          induction fs with
          | nil => intro xs ys xs' ys' b _ _ h; exact h
          | cons p fs ih =>
            intro xs ys xs' ys' b g1 g2 h
            obtain ⟨off, ft⟩ := p
            simp only [eqF] at h ⊢
            split at h
            · rename_i k0 k a0 k' b0 hd0 e1 e2
              obtain ⟨u, hu, r⟩ := g1.get (i := off) (by simpa using e1)
              obtain ⟨v, hv, r'⟩ := g2.get (i := off) (by simpa using e2)
              cases r
              cases r'
              have hu' : xs'[off]? = some (.int k a0) := by simpa using hu
              have hv' : ys'[off]? = some (.int k' b0) := by simpa using hv
              simp only [hd0, hu', hv']
              split at h
              · rename_i hk
                rw [if_pos hk]
                cases hr : eqF C fs xs ys with
                | none => rw [hr] at h; cases h
                | some r0 =>
                  rw [hr] at h
                  rw [ih xs ys xs' ys' r0 g1 g2 hr]
                  exact h
              · cases h
            · cases h
        cases hx with
        | agg _ xs' h1 h2 =>
        cases hy with
        | agg _ ys' g1 g2 =>
        have hg := ground fs xs ys xs' ys' b (VR.arr h1 h2) (VR.arr g1 g2) h
        have key := fun w => hC.eqs t fs (by simpa using hm) hd xs' ys' b w hg
        refine ⟨fun op p q w => (key w).1 op p q, fun w => (key w).2, fun w => ?_, fun w => ?_⟩
        · show ((Op.equal t (.agg xs') (.agg ys')) >>= fun r => pure (Value.bool r) : Sem Value).run C.P w = _
          simp [(key w).2]
        · show ((Op.equal t (.agg xs') (.agg ys')) >>= fun r => pure (Value.bool (!r)) : Sem Value).run C.P w = _
          simp [(key w).2]
      · cases h
    · cases h
  · cases h

theorem bop_sound {op : BinOp} {t : Nat} {x x' y y' v : Value} (hx : VR ι x x') (hy : VR ι y y') (h : bop C op t x y = some v) :
    ∃ v', VR ι v v' ∧ (∀ p q w, (eqGuard op t p q x' y').run C.P w = .ok () w) ∧ ∀ w, (Go.binOp op t x' y').run C.P w = .ok v' w := by
  unfold bop at h
  split at h
  · cases hx
    cases hy
    rename_i k i k' j
    split at h
    · rename_i hs
      obtain ⟨r, hr⟩ := shiftOp_sound (C := C) (ι := ι) (k' := k') h
      refine ⟨v, r, fun p q w => guard_int .., fun w => ?_⟩
      rw [← hr w]
      cases op <;> simp [isShift] at hs <;> rfl
    · rename_i hs
      split at h
      · rename_i hk
        subst hk
        obtain ⟨r, hr⟩ := intOp_sound (C := C) (ι := ι) (by simpa using hs) h
        refine ⟨v, r, fun p q w => guard_int .., fun w => ?_⟩
        rw [← hr w]
        cases op <;> simp [isShift] at hs <;> rfl
      · cases h
  · cases hx
    cases hy
    rename_i i j
    obtain ⟨r, hr⟩ := strOp_sound (C := C) (ι := ι) h
    refine ⟨v, r, fun p q w => guard_str .., fun w => ?_⟩
    rw [← hr w]
    cases op <;> first | rfl | simp [strOp] at h
  · split at h
    · cases he : eqv C t x y with
      | none => rw [he] at h; cases h
      | some b =>
        rw [he] at h
        cases h
        obtain ⟨g1, _, g2, _⟩ := eqv_sound hC hx hy he
        exact ⟨_, .bool b, fun p q w => g1 _ _ _ _, g2⟩
    · cases he : eqv C t x y with
      | none => rw [he] at h; cases h
      | some b =>
        rw [he] at h
        cases h
        obtain ⟨g1, _, _, g2⟩ := eqv_sound hC hx hy he
        exact ⟨_, .bool (!b), fun p q w => g1 _ _ _ _, g2⟩
    · cases h

omit hC in
theorem uop_sound {op : UnOp} {x x' v : Value} (hx : VR ι x x') (h : uop op x = some v) : ∃ v', VR ι v v' ∧ ∀ w, (Op.unary op x').run C.P w = .ok v' w := by
  unfold uop at h
  split at h
  · cases hx; cases h; exact ⟨_, .bool _, fun w => by simp [Op.unary]⟩
  · cases hx; cases h; exact ⟨_, .int _ _, fun w => by simp [Op.unary, Op.intArith]⟩
  · cases h

theorem conv_sound {src dst : Nat} {x x' v : Value} (hx : VR ι x x') (h : convOf C src dst x = some v) : ∃ v', VR ι v v' ∧ ∀ w, (Go.convert src dst x').run C.P w = .ok v' w := by
  unfold convOf at h
  split at h
  · rename_i hs hd
    cases hx; cases h
    exact ⟨_, .int _ _, fun w => by simp [Go.convert, run_underlying (under_int hC hs), run_underlying (under_int hC hd), Conv.intToInt]⟩
  · rename_i hs hd
    cases hx; cases h
    exact ⟨_, .string _, fun w => by simp [Go.convert, run_underlying (under_str hC hs), run_underlying (under_str hC hd)]⟩
  · cases h

theorem len_sound {t : Nat} {x x' v : Value} {ats : Array TypeId} (hx : VR ι x x') (ht : ats[0]? = some t) (rest : List Value) (h : lenOf C t x = some v) (ty : TypeId) :
    ∃ v', VR ι v v' ∧ ∀ w, (Builtin.len_ ats ty (x' :: rest).toArray).run C.P w = .ok v' w := by
  unfold lenOf at h
  split at h
  · rename_i hd
    cases hx; cases h
    exact ⟨_, .int _ _, fun w => by simp [Builtin.len_, ht, run_underlying (under_str hC hd), goInt]⟩
  · rename_i hd
    cases h
    cases hx with
    | slNil => exact ⟨_, .int _ _, fun w => by simp [Builtin.len_, ht, run_underlying (under_slice hC hd), goInt]⟩
    | sl n o len acap l off ccap h1 h2 h3 h4 h5 => exact ⟨_, .int _ _, fun w => by simp [Builtin.len_, ht, run_underlying (under_slice hC hd), goInt]⟩
  · rename_i hd
    cases h
    cases hx with
    | ro _ _ g0 off0 ccap c0 hz hs hl hr hfl => exact ⟨_, .int _ _, fun w => by simp [Builtin.len_, ht, run_underlying (under_slice hC hd), goInt]⟩
    | ro0 a ccap ha => exact ⟨_, .int _ _, fun w => by simp [Builtin.len_, ht, run_underlying (under_slice hC hd), goInt]⟩
  · cases h

theorem cap_sound {t : Nat} {x x' v : Value} {ats : Array TypeId} (hx : VR ι x x') (ht : ats[0]? = some t) (rest : List Value) (h : capOf C t x = some v) (ty : TypeId) :
    ∃ v', VR ι v v' ∧ ∀ w, (Builtin.cap_ ats ty (x' :: rest).toArray).run C.P w = .ok v' w := by
  unfold capOf at h
  split at h
  · rename_i hd
    cases h
    cases hx
    exact ⟨_, .int _ _, fun w => by simp [Builtin.cap_, ht, run_underlying (under_slice hC hd), goInt]⟩
  · cases h

omit hC in
theorem minMax_sound (mx : Bool) : ∀ {xs ys : List Value} {x x' v : Value}, VR ι x x' → VRL ι xs ys → minMax mx x xs = some v →
    ∃ v', VR ι v v' ∧ ∀ w, (ys.foldlM (m := Sem) (if mx then Builtin.max2 else Builtin.min2) x').run C.P w = .ok v' w
  | [], ys, x, x', v, hx, hl, h => by
    rw [hl.cases_nil]
    unfold minMax at h
    split at h
    · cases h; cases hx; exact ⟨_, .int _ _, fun w => by simp⟩
    · rename_i he; cases he
    · cases h
  | y :: xs, ys, x, x', v, hx, hl, h => by
    obtain ⟨y', ys, rfl, hy, ht⟩ := hl.cases_cons
    unfold minMax at h
    split at h
    · rename_i he; cases he
    · rename_i k i k' j rest e
      cases e
      cases hx
      cases hy
      obtain ⟨v', r, hr⟩ := minMax_sound mx (.int k _) ht h
      refine ⟨v', r, fun w => ?_⟩
      rw [← hr w]
      cases mx <;> simp [List.foldlM_cons, Builtin.min2, Builtin.max2]
    · cases h


omit hC in
theorem boundIs {T : Tm} {a : Act} (hT : TR ι T a.tmps) (hG : GlobOK C ι) {x : Option Operand} {d n : Nat} (h : boundOf (x.map (ev C T)) d = some n) : BoundIs (x.map (ev C T)) (x.map a.eval) := by
  cases x with
  | none => exact .inl ⟨rfl, rfl⟩
  | some y =>
    simp only [Option.map_some] at h ⊢
    unfold boundOf at h
    split at h
    · rename_i e; cases e
    · rename_i k i e
      simp only [Option.some.injEq] at e
      have := ev_sound hT hG e
      generalize a.eval y = u at this
      cases this
      exact .inr ⟨_, _, by rw [e], rfl⟩
    · cases h

omit hC in
theorem sliceOf_bounds {es : Nat → Option Nat} {t : Nat} {x v : Value} {lo hi : Option (Option Value)} (h : sliceOf C es t x lo hi = some v) : (∃ d n, boundOf lo d = some n) ∧ (∃ d n, boundOf hi d = some n) := by
  unfold sliceOf at h
  split at h
  · split at h
    · exact ⟨⟨_, _, ‹_›⟩, ⟨_, _, ‹_›⟩⟩
    · cases h
  · split at h
    · cases h
    · unfold sliceIn at h
      split at h
      · exact ⟨⟨_, _, ‹_›⟩, ⟨_, _, ‹_›⟩⟩
      · cases h
  · split at h
    · cases h
    · unfold roPart at h
      split at h
      · exact ⟨⟨_, _, ‹_›⟩, ⟨_, _, ‹_›⟩⟩
      · cases h
  · cases h

omit hC in
theorem cutOf_bounds {t : Nat} {x v : Value} {lo hi mx : Option (Option Value)} (h : cutOf C t x lo hi mx = some v) : (∃ d n, boundOf lo d = some n) ∧ (∃ d n, boundOf hi d = some n) ∧ (∃ d n, boundOf mx d = some n) := by
  unfold cutOf at h
  split at h
  · exact ⟨⟨_, _, ‹_›⟩, ⟨_, _, ‹_›⟩, ⟨_, _, ‹_›⟩⟩
  · cases h

/-- What touches no memory comes to the same in the machine. -/
theorem pv_sound {es : Nat → Option Nat} (hT : TR ι T a.tmps) (hG : GlobOK C ι) (hes : EsOK ι es) {o : Oper} {v : Value} (h : pv C es T o = some v) :
    ∃ v', VR ι v v' ∧ ∀ w, (execOp a.eval o).run C.P w = .ok (.value v') w := by
  have S := fun {x : Operand} {v : Value} (h : ev C T x = some v) => ev_sound (a := a) hT hG h
  unfold pv at h
  split at h
  case h_1 x ho => exact ⟨_, S h, fun w => by simp [execOp, ho]⟩
  case h_2 x ho => exact ⟨_, S h, fun w => by simp [execOp, ho]⟩
  case h_3 c x y ho =>
    split at h
    · rename_i hc
      have := S hc
      generalize hce : a.eval c = u at this
      cases this
      exact ⟨_, S h, fun w => by simp [execOp, ho, hce, asBool]⟩
    · rename_i hc
      have := S hc
      generalize hce : a.eval c = u at this
      cases this
      exact ⟨_, S h, fun w => by simp [execOp, ho, hce, asBool]⟩
    · cases h
  case h_4 op t x y t' ho =>
    split at h
    · rename_i u v' hx hy
      obtain ⟨r, h1, h2, h3⟩ := bop_sound hC (S hx) (S hy) h
      exact ⟨r, h1, fun w => by simp [execOp, ho, h2 x y w, h3 w]⟩
    · cases h
  case h_5 op t x ho =>
    split at h
    · rename_i u hx
      obtain ⟨r, h1, h2⟩ := uop_sound (C := C) (S hx) h
      exact ⟨r, h1, fun w => by simp [execOp, ho, h2 w]⟩
    · cases h
  case h_6 s d x ho =>
    split at h
    · rename_i u hx
      obtain ⟨r, h1, h2⟩ := conv_sound hC (S hx) h
      exact ⟨r, h1, fun w => by simp [execOp, ho, h2 w]⟩
    · cases h
  case h_7 x i ho =>
    split at h
    · rename_i vs hx
      have := S hx
      generalize hxe : a.eval x = u at this
      cases this with
      | tuple _ vs' g1 g2 =>
      obtain ⟨y, hy, r⟩ := (VR.arr g1 g2).get (i := i) (by simpa using h)
      have hy' : vs'[i]? = some y := by simpa using hy
      exact ⟨y, r, fun w => by simp [execOp, ho, hxe, Instr.extract, hy']⟩
    · cases h
  case h_8 t x f ho =>
    split at h
    · rename_i u hx
      obtain ⟨r, h1, h2⟩ := field_sound hC (S hx) h
      exact ⟨r, h1, fun w => by simp [execOp, ho, h2 w]⟩
    · cases h
  case h_9 t x f ho =>
    split at h
    · rename_i u hx
      obtain ⟨r, h1, h2⟩ := fieldAddr_sound hC (S hx) h
      exact ⟨r, h1, fun w => by simp [execOp, ho, h2 w]⟩
    · cases h
  case h_10 t x i ho =>
    split at h
    · rename_i u j hx hi
      obtain ⟨r, h1, h2⟩ := indexAddr_sound hC (S hx) (S hi) h
      exact ⟨r, h1, fun w => by simp [execOp, ho, h2 w]⟩
    · cases h
  case h_11 t x i ho =>
    split at h
    · rename_i u j hx hi
      obtain ⟨r, h1, h2⟩ := index_sound hC (S hx) (S hi) h
      exact ⟨r, h1, fun w => by simp [execOp, ho, h2 w]⟩
    · cases h
  case h_12 t x lo hi ho =>
    split at h
    · rename_i u hx
      obtain ⟨⟨_, _, b1⟩, ⟨_, _, b2⟩⟩ := sliceOf_bounds h
      obtain ⟨r, h1, h2⟩ := slice_sound hC hes (S hx) (boundIs hT hG b1) (boundIs hT hG b2) h
      exact ⟨r, h1, fun w => by simp [execOp, ho, h2 w]⟩
    · cases h
  case h_13 t x lo hi mx ho =>
    split at h
    · rename_i u hx
      obtain ⟨⟨_, _, b1⟩, ⟨_, _, b2⟩, ⟨_, _, b3⟩⟩ := cutOf_bounds h
      obtain ⟨r, h1, h2⟩ := cut_sound hC (S hx) (boundIs hT hG b1) (boundIs (x := some hi) hT hG b2) (boundIs (x := some mx) hT hG b3) (by simp) (by simp) h
      exact ⟨r, h1, fun w => by simp only [Option.map_some] at h2; simp [execOp, ho, h2 w]⟩
    · cases h
  case h_14 t parts ho =>
    split at h
    · rename_i ps hp
      obtain ⟨r, h1, h2⟩ := build_sound hC (evP_sound (a := a) hT hG hp) h
      refine ⟨r, h1, fun w => ?_⟩
      have e : (List.map (fun (x : Nat × Operand) => match x with | (i, x) => (i, a.eval x)) parts.toList).toArray = parts.map (fun (i, x) => (i, a.eval x)) := by
        apply Array.ext'
        simp
      rw [e] at h2
      simp only [execOp, ho, Sem.run_bind, h2 w, Result.andThen_ok, Sem.run_pure]
    · cases h
  case h_15 x ho =>
    split at h
    · rename_i p hx
      cases h
      have := S hx
      generalize hxe : a.eval x = u at this
      cases this with
      | ptr n o l hl => exact ⟨_, .ptr n o l hl, fun w => by simp [execOp, ho, hxe]⟩
    · rename_i p hx
      cases h
      have := S hx
      generalize hxe : a.eval x = u at this
      cases this with
      | rop _ g0 off0 c hz hs hr hfl => exact ⟨_, .rop _ g0 off0 c hz hs hr hfl, fun w => by simp [execOp, ho, hxe]⟩
    · cases h
  case h_16 fn first captured ho =>
    split at h
    · rename_i p q hp hq
      cases h
      have g1 := evL_sound (a := a) hT hG hp
      have g2 := evL_sound (a := a) hT hG hq
      have e1 : (List.map a.eval first.toList).toArray = first.map a.eval := by apply Array.ext'; simp
      have e2 : (List.map a.eval captured.toList).toArray = captured.map a.eval := by apply Array.ext'; simp
      have a1 := g1.arr
      have a2 := g2.arr
      rw [e1] at a1
      rw [e2] at a2
      exact ⟨_, .func fn _ _ _ _ a1.1 a1.2 a2.1 a2.2, fun w => by simp [execOp, ho, Instr.makeFunc]⟩
    · cases h
  case h_17 c ho =>
    have args : ∀ {xs : List Value}, evL C T c.args.toList = some xs → VRL ι xs (c.args.map a.eval).toList := fun h => by
      have := evL_sound (a := a) hT hG h
      simpa using this
    split at h
    · rename_i x xs hc hx
      have hr := args hx
      generalize hargs : (c.args.map a.eval).toList = ys at hr
      obtain ⟨y, ys', rfl, h1, h2⟩ := hr.cases_cons
      split at h
      · rename_i t ht
        obtain ⟨r, e1, e2⟩ := len_sound hC h1 ht ys' h o.type
        refine ⟨r, e1, fun w => ?_⟩
        have ha : c.args.map a.eval = (y :: ys').toArray := by rw [← hargs]
        simp [execOp, ho, resolve, hc, invoke, Go.builtin, ha, e2 w]
      · cases h
    · rename_i x xs hc hx
      have hr := args hx
      generalize hargs : (c.args.map a.eval).toList = ys at hr
      obtain ⟨y, ys', rfl, h1, h2⟩ := hr.cases_cons
      split at h
      · rename_i t ht
        obtain ⟨r, e1, e2⟩ := cap_sound hC h1 ht ys' h o.type
        refine ⟨r, e1, fun w => ?_⟩
        have ha : c.args.map a.eval = (y :: ys').toArray := by rw [← hargs]
        simp [execOp, ho, resolve, hc, invoke, Go.builtin, ha, e2 w]
      · cases h
    · rename_i x xs hc hx
      have hr := args hx
      generalize hargs : (c.args.map a.eval).toList = ys at hr
      obtain ⟨y, ys', rfl, h1, h2⟩ := hr.cases_cons
      obtain ⟨r, e1, e2⟩ := minMax_sound (C := C) false h1 h2 h
      refine ⟨r, e1, fun w => ?_⟩
      have ha : c.args.map a.eval = (y :: ys').toArray := by rw [← hargs]
      have e3 := e2 w
      simp only [Bool.false_eq_true, if_false] at e3
      simp [execOp, ho, resolve, hc, invoke, Go.builtin, ha, Builtin.min_, e3]
    · rename_i x xs hc hx
      have hr := args hx
      generalize hargs : (c.args.map a.eval).toList = ys at hr
      obtain ⟨y, ys', rfl, h1, h2⟩ := hr.cases_cons
      obtain ⟨r, e1, e2⟩ := minMax_sound (C := C) true h1 h2 h
      refine ⟨r, e1, fun w => ?_⟩
      have ha : c.args.map a.eval = (y :: ys').toArray := by rw [← hargs]
      have e3 := e2 w
      simp only [if_true] at e3
      simp [execOp, ho, resolve, hc, invoke, Go.builtin, ha, Builtin.max_, e3]
    · cases h
  case h_18 => cases h
end
end Go.Ab
