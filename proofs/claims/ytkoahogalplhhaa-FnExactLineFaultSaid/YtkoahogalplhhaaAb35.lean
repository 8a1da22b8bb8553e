/- Part of an own evaluator of Go code on numbered blocks, and of the proof that the machine does what it says; each theorem carries its own conditions. -/
import Derived.Test.YtkoahogalplhhaaAb34
import Derived.Below
import Derived.Carry
import Derived.ChangeShapes
import Derived.OpenShut
set_option linter.unusedVariables false
set_option linter.unusedSimpArgs false
namespace Go.Ab
open Go.RowKit

/-! ## A law that returns true, at all arguments of its types -/

def TypedAll (C : Cfg) : List Nat → List Value → Prop
  | [], [] => True
  | t :: ts, a :: as => TypedV C t a ∧ TypedAll C ts as
  | _, _ => False

section
variable {C : Cfg} (hC : CfgOK C)
include hC
variable {H : Type} {enc : TypeId × Value → H} {W : World} {base : Nat} {spare : Nat → Bool} {held : Bool}

theorem read_args {l : List Nat} (hg : goodB C l = true) {r : Reach} {b0 : Nat} : ∀ {ts : List Nat} {vs : List Value} {ds : List (DataW H)} {ps : List MemPlace}, (∀ t ∈ ts, t ∈ l) → (∀ (j : Nat) t v, ts[j]? = some t → vs[j]? = some v → Value.okWide C.P W r b0 t v) →
    DataW.TrodAll enc C.P W base spare held ts vs ds ps → ∃ as, VRL (iceAll W) as vs ∧ TypedAll C ts as
  | [], vs, ds, ps, _, _, h => by
    obtain ⟨rfl, _, _⟩ := ChangeShapes.trodAll_nil h
    exact ⟨[], .nil, trivial⟩
  | t :: ts, vs, ds, ps, hl, hval, h => by
    obtain ⟨v, vs', d, ds', p, q, rfl, rfl, rfl, h1, h2⟩ := ChangeShapes.trodAll_cons h
    obtain ⟨a, r1, t1⟩ := read_arg hC hg (hl t (List.mem_cons_self ..)) (hval 0 t v rfl rfl) h1
    obtain ⟨as, r2, t2⟩ := read_args hg (fun x hx => hl x (List.mem_cons_of_mem _ hx)) (fun j t v h1 h2 => hval (j + 1) t v h1 h2) h2
    exact ⟨a :: as, .cons r1 r2, t1, t2⟩

omit hC in
theorem frz_bool {m : Mem} {v0 : Value} {b : Bool} {ns : List Nat} (h : frz 64 m v0 = some (.bool b, ns)) : v0 = .bool b := by
  unfold frz at h
  split at h <;> first | (cases h; rfl) | (cases h; done) | skip
  all_goals (repeat' (split at h)) <;> first | (cases h; done) | (simp [roS, roP] at h; done) | skip

/-- The law's call: true, and nothing that was there has turned. -/
theorem law_calls (h0 : C.G = 0) {f : FuncId} {ts : List Nat} (hF : ∀ as, TypedAll C ts as → Fz C f as (.bool true)) {l : List Nat} (hg : goodB C l = true) (hts : ts.all l.contains = true) {r : Reach} {b0 : Nat} {args : Array Value} {ds : List (DataW H)} {ps : List MemPlace}
    (hval : ∀ (j : Nat) t v, ts[j]? = some t → args.toList[j]? = some v → Value.okWide C.P W r b0 t v) (h : DataW.TrodAll enc C.P W base spare held ts args.toList ds ps) :
    Calls C.P f args W fun e W' => e = .returned (.bool true) ∧ Below W.heap.size W W' := by
  rw [List.all_eq_true] at hts
  obtain ⟨as, r, ty⟩ := read_args hC hg (fun t ht => by simpa using hts t ht) hval h
  obtain ⟨v0, m2, ns, hcon, hfr⟩ := hF as ty
  have hv0 := frz_bool hfr
  subst hv0
  refine (hcon.2.2 W.heap.size (iceAll W) W args (iceAll_rep _ W) (fun g hg => by omega) (Nat.le_refl _) r (fun n _ _ => rfl)).mono ?_
  rintro e W' ⟨v', ι', rfl, A, rv⟩
  cases rv
  refine ⟨rfl, A.os, A.tape, A.output, A.size, fun k hk => A.frame k hk fun n l b _ hb => ?_⟩
  simp at hb
end

section
variable {H : Type} {enc : TypeId × Value → H} {P : Program} {W W' : World}

/-- The arguments read as they did. -/
theorem trodAll_below (hl : laidOutB P = true) (hb : Below W.heap.size W W') : ∀ {ts : List TypeId} {vs : List Value} {ds : List (DataW H)} {ps : List MemPlace}, ts.all (fun t => P.readableRec t && decide (t < P.types.size)) = true → DataW.TrodAll enc P W 0 (fun _ => true) true ts vs ds ps →
    DataW.TrodAll enc P W' 0 (fun b => decide (b < W.heap.size)) true ts vs ds ps
  | [], vs, ds, ps, _, h => by
    obtain ⟨rfl, rfl, rfl⟩ := ChangeShapes.trodAll_nil h
    rfl
  | t :: ts, vs, ds, ps, ht, h => by
    obtain ⟨v, vs', d, ds', p, q, rfl, rfl, rfl, h1, h2⟩ := ChangeShapes.trodAll_cons h
    simp only [List.all_cons, Bool.and_eq_true, decide_eq_true_eq] at ht
    refine ⟨p, q, ?_, trodAll_below hl hb ht.2 h2, rfl⟩
    exact Below.trod hl ht.1.1 ht.1.2 h1 hb (by
      obtain ⟨m, hm⟩ := h1
      exact DataW.trod_lt m _ _ _ hm)
end
end Go.Ab
