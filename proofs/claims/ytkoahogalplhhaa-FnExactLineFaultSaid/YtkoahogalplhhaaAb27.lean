/- Part of an own evaluator of Go code on numbered blocks, and of the proof that the machine does what it says; each theorem carries its own conditions. -/
import Derived.Test.YtkoahogalplhhaaAb26
set_option linter.unusedVariables false
set_option linter.unusedSimpArgs false
namespace Go.Ab

/-! ## More temporaries do no harm -/

def Sub (T T' : Tm) : Prop := ∀ t v, T.lookup t = some v → T'.lookup t = some v

section
variable {C : Cfg} {T T' : Tm} {m : Mem}

theorem Sub.refl (T : Tm) : Sub T T := fun _ _ h => h

theorem Sub.put {d : Option Tmp} {v : Value} (h : Sub T T') : Sub (putD T d v) (putD T' d v) := by
  cases d with
  | none => exact h
  | some d =>
    intro t u hu
    simp only [putD, List.lookup_cons] at hu ⊢
    split at hu
    · exact hu
    · exact h t u hu

theorem ev_mono (h : Sub T T') {x : Operand} {v : Value} (e : ev C T x = some v) : ev C T' x = some v := by
  cases x <;> simp only [ev] at e ⊢
  · exact h _ _ e
  · exact e
  · exact e
  · exact e

theorem evL_mono (h : Sub T T') : ∀ {xs : List Operand} {vs : List Value}, evL C T xs = some vs → evL C T' xs = some vs
  | [], vs, e => e
  | x :: xs, vs, e => by
    simp only [evL] at e ⊢
    split at e
    · cases e
    · rename_i hx
      rw [ev_mono h hx]
      simp only
      split at e
      · cases e
      · rename_i hxs
        rw [evL_mono h hxs]
        exact e

theorem evP_mono (h : Sub T T') : ∀ {xs : List (Nat × Operand)} {vs : List (Nat × Value)}, evP C T xs = some vs → evP C T' xs = some vs
  | [], vs, e => e
  | (i, x) :: xs, vs, e => by
    simp only [evP] at e ⊢
    split at e
    · cases e
    · rename_i hx
      rw [ev_mono h hx]
      simp only
      split at e
      · cases e
      · rename_i hxs
        rw [evP_mono h hxs]
        exact e

/-- What was found for an optional bound is found again. -/
theorem bound_mono (h : Sub T T') {lo : Option Operand} {d n : Nat} (e : boundOf (lo.map (ev C T)) d = some n) : boundOf (lo.map (ev C T')) d = some n := by
  cases lo with
  | none => exact e
  | some x =>
    simp only [Option.map_some, boundOf] at e ⊢
    cases hx : ev C T x with
    | none => rw [hx] at e; simp at e
    | some v => rw [hx] at e; rw [ev_mono h hx]; exact e

theorem slice_mono (h : Sub T T') {es : Nat → Option Nat} {t : Nat} {x : Value} {lo hi : Option Operand} {v : Value} (e : sliceOf C es t x (lo.map (ev C T)) (hi.map (ev C T)) = some v) : sliceOf C es t x (lo.map (ev C T')) (hi.map (ev C T')) = some v := by
  unfold sliceOf sliceIn roPart at e ⊢
  split at e
  · split at e
    · rename_i h1 h2
      rw [bound_mono h h1, bound_mono h h2]
      exact e
    · cases e
  · split at e
    · cases e
    · split at e
      · rename_i h1 h2
        rw [bound_mono h h1, bound_mono h h2]
        exact e
      · cases e
  · split at e
    · cases e
    · split at e
      · rename_i h1 h2
        rw [bound_mono h h1, bound_mono h h2]
        exact e
      · cases e
  · cases e

theorem cut_mono (h : Sub T T') {t : Nat} {x : Value} {lo : Option Operand} {hi mx : Operand} {v : Value} (e : cutOf C t x (lo.map (ev C T)) (some (ev C T hi)) (some (ev C T mx)) = some v) : cutOf C t x (lo.map (ev C T')) (some (ev C T' hi)) (some (ev C T' mx)) = some v := by
  unfold cutOf at e ⊢
  split at e
  · rename_i q0 q1 q2 q3
    have e1 := bound_mono h q1
    have e2 := bound_mono h (lo := some hi) (d := 0) (by simpa using q2)
    have e3 := bound_mono h (lo := some mx) (d := 0) (by simpa using q3)
    simp only [Option.map_some] at e2 e3
    simp only [q0, e1, e2, e3]
    exact e
  · cases e

theorem pv_mono (h : Sub T T') {es : Nat → Option Nat} {o : Oper} {v : Value} (e : pv C es T o = some v) : pv C es T' o = some v := by
  unfold pv at e ⊢
  split at e
  · exact ev_mono h e
  · exact ev_mono h e
  · split at e
    · rename_i hc; simp only [ev_mono h hc]; exact ev_mono h e
    · rename_i hc; simp only [ev_mono h hc]; exact ev_mono h e
    · cases e
  · split at e
    · rename_i h1 h2; simp only [ev_mono h h1, ev_mono h h2]; exact e
    · cases e
  · split at e
    · rename_i h1; simp only [ev_mono h h1]; exact e
    · cases e
  · split at e
    · rename_i h1; simp only [ev_mono h h1]; exact e
    · cases e
  · split at e
    · rename_i h1; simp only [ev_mono h h1]; exact e
    · cases e
  · split at e
    · rename_i h1; simp only [ev_mono h h1]; exact e
    · cases e
  · split at e
    · rename_i h1; simp only [ev_mono h h1]; exact e
    · cases e
  · split at e
    · rename_i h1 h2; simp only [ev_mono h h1, ev_mono h h2]; exact e
    · cases e
  · split at e
    · rename_i h1 h2; simp only [ev_mono h h1, ev_mono h h2]; exact e
    · cases e
  · split at e
    · rename_i h1; simp only [ev_mono h h1]; exact slice_mono h e
    · cases e
  · split at e
    · rename_i h1; simp only [ev_mono h h1]; exact cut_mono h e
    · cases e
  · split at e
    · rename_i h1; simp only [evP_mono h h1]; exact e
    · cases e
  · split at e
    · rename_i h1; simp only [ev_mono h h1]; exact e
    · rename_i h1; simp only [ev_mono h h1]; exact e
    · cases e
  · split at e
    · rename_i h1 h2; simp only [evL_mono h h1, evL_mono h h2]; exact e
    · cases e
  · split at e
    · rename_i q h1; simp only [q, evL_mono h h1]; exact e
    · rename_i q h1; simp only [q, evL_mono h h1]; exact e
    · rename_i q h1; simp only [q, evL_mono h h1]; exact e
    · rename_i q h1; simp only [q, evL_mono h h1]; exact e
    · cases e
  · cases e

theorem av_mono (h : Sub T T') {name : Nat} {o : Oper} {r : Value × Blk} (e : av C name T o = some r) : av C name T' o = some r := by
  unfold av at e ⊢
  split at e
  · exact e
  · split at e
    · rename_i h1; simp only [ev_mono h h1]; exact e
    · cases e
  · split at e
    · rename_i h0 h1; simp only [h0, evP_mono h h1]; exact e
    · cases e
  · split at e
    · rename_i h0 h1 h2; simp only [h0, ev_mono h h1, ev_mono h h2]; exact e
    · cases e
  · split at e
    · rename_i h0 h1 h2; simp only [h0, h1, ev_mono h h2]; exact e
    · cases e
  · cases e

theorem rv_mono (h : Sub T T') {o : Oper} {r : Option Nat × Value} (e : rv C m T o = some r) : rv C m T' o = some r := by
  unfold rv at e ⊢
  split at e
  · split at e
    · rename_i h1; simp only [ev_mono h h1]; exact e
    · rename_i h1; simp only [ev_mono h h1]; exact e
    · cases e
  · split at e
    · rename_i h0 h1 h2; simp only [h0, h1, ev_mono h h2]; exact e
    · rename_i h0 h1 h2; simp only [h0, h1, ev_mono h h2]; exact e
    · cases e
  · cases e

theorem wv_mono {call : CallF} (h : Sub T T') {o : Oper} {r : Value × Mem} (e : wv C call m T o = some r) : wv C call m T' o = some r := by
  unfold wv at e ⊢
  split at e
  · split at e
    · rename_i h1 h2; simp only [ev_mono h h1, ev_mono h h2]; exact e
    · cases e
  · split at e
    · rename_i q h1; simp only [q, evL_mono h h1]; exact e
    · rename_i q h1; simp only [q, evL_mono h h1]; exact e
    · rename_i q h1; simp only [q, evL_mono h h1]; exact e
    · rename_i q h1; simp only [q, evL_mono h h1]
      split at e
      · rename_i h2; simp only [ev_mono h h2]; exact e
      · cases e
    · cases e
  · cases e

theorem aOp_mono {call : CallF} (h : Sub T T') {o : Oper} {r : Value × Mem × Option Nat} (e : aOp C call T m o = some r) : aOp C call T' m o = some r := by
  unfold aOp at e ⊢
  split at e
  · split at e
    · rename_i h1; simp only [pv_mono h h1]; exact e
    · cases e
  · split at e
    · rename_i h1; simp only [av_mono h h1]; exact e
    · cases e
  · split at e
    · rename_i h1; simp only [rv_mono h h1]; exact e
    · cases e
  · split at e
    · rename_i h1; simp only [wv_mono h h1]; exact e
    · cases e

theorem Run.mono {k : Nat} {fn : Func} {todo : List Item} {v : Value} {m' : Mem} (h : Sub T T') (r : Run C k fn todo T m v m') : Run C k fn todo T' m v m' :=
  fun B ι w a b cs R hG hB hT ht hk hN hd => r B ι w a b cs R hG hB (fun t v hv => hT t v (h t v hv)) ht hk hN hd

theorem RunF.mono {fn : Func} {todo : List Item} {v : Value} (h : Sub T T') (r : RunF C fn todo T m v) : RunF C fn todo T' m v := by
  obtain ⟨v0, m', ns, h1, h2⟩ := r
  exact ⟨v0, m', ns, h1.mono h, h2⟩
end
end Go.Ab
