/- Part of an own evaluator of Go code on numbered blocks, and of the proof that the machine does what it says; each theorem carries its own conditions. -/
import Derived.Test.YtkoahogalplhhaaAb22
set_option linter.unusedVariables false
set_option linter.unusedSimpArgs false
namespace Go.Ab

/-! ## Contracts -/

/-- What one call does. -/
def Con (C : Cfg) (f : FuncId) (args : List Value) (m : Mem) (v : Value) (m' : Mem) : Prop :=
  Grow m m' ∧
  (∃ fn, C.P.funcs[f]? = some fn ∧ (fn.name == "runtime.NumGoroutine") = false ∧ fn.body.isNone = false) ∧
  ∀ B ι w (args' : Array Value), Rep B ι m w → GlobOK C ι → B ≤ w.heap.size → VRL ι args args'.toList → Free ι m.length m'.length →
    Calls C.P f args' w fun e w' => ∃ v' ι', e = .returned v' ∧ After B ι m w ι' m' w' ∧ VR ι' v v'

structure Inst where
  f : FuncId
  args : List Value
  m : Mem
  v : Value
  m' : Mem

open Classical in
/-- These calls alone. -/
noncomputable def tab : List Inst → CallF
  | [] => fun _ _ _ => none
  | i :: L => fun f args m => if f = i.f ∧ args = i.args ∧ m = i.m then some (i.v, i.m') else tab L f args m

theorem tab_ok {C : Cfg} : ∀ {L : List Inst}, (∀ i ∈ L, Con C i.f i.args i.m i.v i.m') → CallOK C (tab L)
  | [], _ => fun f args m v m' h => by simp [tab] at h
  | i :: L, hL => fun f args m v m' h => by
    unfold tab at h
    split at h
    · rename_i e
      obtain ⟨rfl, rfl, rfl⟩ := e
      cases h
      exact hL i (List.mem_cons_self ..)
    · exact tab_ok (fun j hj => hL j (List.mem_cons_of_mem _ hj)) f args m v m' h

theorem tab_hit {i : Inst} {L : List Inst} {f : FuncId} {args : List Value} {m : Mem} (h : f = i.f) (h1 : args = i.args) (h2 : m = i.m) : tab (i :: L) f args m = some (i.v, i.m') := by
  unfold tab
  rw [if_pos ⟨h, h1, h2⟩]

open Classical in
theorem tab_miss {i : Inst} {L : List Inst} {f : FuncId} {args : List Value} {m : Mem} (h : ¬ (f = i.f ∧ args = i.args ∧ m = i.m)) : tab (i :: L) f args m = tab L f args m := by
  show (if f = i.f ∧ args = i.args ∧ m = i.m then some (i.v, i.m') else tab L f args m) = _
  rw [if_neg h]

def low (N : Nat) : Nat → Option Nat := fun n => if n < N then some n else none

section
variable {C : Cfg} {f : FuncId} {g : Func} {c : Code} {args : List Value} {m m' m2 : Mem} {v v' v0 : Value}

theorem After.ofK {B : Nat} {ι ιt ι' : Emb} {w w' : World} (ht : ∀ n, ιt n = if n < m.length then ι n else none) (hz : ιt.fz = ι.fz) (A : AfterK B m.length ιt m w ι' m' w') :
    After B ι m w { ι' with loc := fun n => if n < m'.length then ι' n else ι n } m' w' where
  len := A.len
  keep n h := by
    have hl := A.len
    show (if n < m'.length then ι' n else ι n) = ι n
    split
    · rcases h with h | h
      · rw [A.keep n h, ht n, if_pos h]
      · omega
    · rfl
  rep := by
    have R := A.rep
    have loc : ∀ {n l b}, (if n < m'.length then ι' n else ι n) = some l → m'[n]? = some b → ι' n = some l := by
      intro n l b h1 h2
      rw [if_pos (List.getElem?_eq_some_iff.1 h2).1] at h1
      exact h1
    have hle : ι'.le { ι' with loc := fun n => if n < m'.length then ι' n else ι n } := by
      refine ⟨fun n l h => ?_, fun _ _ h => h⟩
      show (if n < m'.length then ι' n else ι n) = some l
      split
      · exact h
      · rw [A.tight n (by omega)] at h; cases h
    exact ⟨fun n l b h1 h2 h3 => (R.cells n l b (loc h1 h2) h2 h3).mono hle, fun n n' l l' b b' h0 h1 h2 h3 h4 h5 h6 h7 => R.apart n n' l l' b b' h0 (loc h1 h3) (loc h2 h4) h3 h4 h5 h6 h7,
      fun n l b h1 h2 h3 h4 => R.base n l b (loc h1 h2) h2 h3 h4, fun n l b h1 h2 => R.es n l b (loc h1 h2) h2, R.frozen, fun n l b h1 h2 h3 h4 => R.cold n l b (loc h1 h2) h2 h3 h4, fun n l b h1 h2 h3 h4 => R.kept n l b (loc h1 h2) h2 h3 h4⟩
  frame g hg hn := by
    refine A.frame g hg fun n l b h1 h2 h3 h4 => ?_
    rw [ht] at h1
    split at h1
    · exact hn n l b h1 h2 h3 h4
    · cases h1
  origin n l b h1 h2 h3 h4 := by
    have h2' : ι' n = some l := by
      have : (if n < m'.length then ι' n else ι n) = some l := h2
      rw [if_pos (List.getElem?_eq_some_iff.1 h3).1] at this
      exact this
    rcases A.origin n l b h1 h2' h3 h4 with h | ⟨j, l0, b0, a1, a2, a3, a4, a5⟩ | ⟨j, l0, b0, a0, a1, a2, a3, a5⟩
    · exact .inl h
    · rw [ht] at a1
      split at a1
      · exact .inr ⟨j, l0, b0, a1, a2, a3, a4, a5⟩
      · cases a1
    · have := (List.getElem?_eq_some_iff.1 a2).1
      omega
  alive := A.alive
  fz g c h := A.fz g c (by rw [hz]; exact h)
  ice g h := by
    rcases A.ice g (by rw [hz]; exact h) with h | h | ⟨j, l0, b0, a1, a2, a3, a4, a5⟩
    · exact .inl h
    · exact .inr (.inl h)
    · rw [ht] at a1
      split at a1
      · exact .inr (.inr ⟨j, l0, b0, a1, a2, a3, a4, a5⟩)
      · cases a1
  unreal n h1 h2 := A.unreal n h1 (by rw [ht, if_pos h1]; exact h2)
  os := A.os
  tape := A.tape
  output := A.output
  size := A.size

/-- No cell names a block that is not there. -/
def Closed (m : Mem) : Prop := ∀ (n : Nat) b, m[n]? = some b → b.live = true → RNL inert (low m.length) b.cells b.cells

theorem Closed.nil : Closed [] := fun n b h => by simp at h

theorem low_some {N n n' : Nat} (h : low N n = some n') : n' = n ∧ n < N := by
  unfold low at h
  split at h
  · cases h; exact ⟨rfl, ‹_›⟩
  · cases h

theorem Closed.sim (h : Closed m) : SimM inert (low m.length) m m := by
  refine ⟨fun a b c h1 h2 => ?_, fun n n' h => (low_some h).2, fun n n' b h1 h2 => ?_⟩
  · rw [← (low_some h1).1, ← (low_some h2).1]
  · have e := (low_some h2).1
    subst e
    exact ⟨b, h1, rfl, rfl, rfl, fun hl => h _ b h1 hl⟩

/-- A contract from a run of the body. -/
theorem Con.of_run (hg : C.P.funcs[f]? = some g) (hb : g.body = some c) (hl : args.length ≤ g.ntmps) (hn : (g.name == "runtime.NumGoroutine") = false) (hG : C.G ≤ m.length) (hgrow : Grow m m') (hm : Closed m) (hlow : RNL inert (low m.length) args args)
    (h : Run C m.length g [.code c] (argsT 0 args) m v m') : Con C f args m v m' := by
  refine ⟨hgrow, ⟨g, hg, hn, by rw [hb]; rfl⟩, fun B ι w args' R hGl hB hargs hF cs => ?_⟩
  have hlen : args'.size = args.length := by have := hargs.1; simpa using this.symm
  have via : ∀ n, (ι.via (low m.length)) n = if n < m.length then ι n else none := by
    intro n
    show (low m.length n).bind ι.loc = _
    unfold low
    split <;> rfl
  have hargs1 : VRL (ι.via (low m.length)) args args'.toList := hlow.back (ι := ι) (ι0 := ι.via (low m.length)) (fun _ h => h) rfl (fun n n' l q1 q2 => by
    obtain ⟨e, h1⟩ := low_some q1
    subst e
    rw [via, if_pos h1]
    exact q2) hargs
  obtain ⟨w', fr, ι', v', q1, q2, q3, q4, q5, q6, A, q8⟩ := h B (ι.via (low m.length)) w { tmps := args' ++ Array.replicate (g.ntmps - args'.size) undef, defers := [] } { (default : Frame) with fn := f, kind := .normal } cs (SimM.rep (fun _ h => h) hm.sim R) (by
      intro n hn
      obtain ⟨l, h1, h2⟩ := hGl n hn
      exact ⟨l, by rw [via, if_pos (by omega)]; exact h1, h2⟩) hB (by
      intro t u hu
      rw [argsT_lookup] at hu
      simp at hu
      obtain ⟨y, e1, e2⟩ := hargs1.get hu
      refine ⟨y, ?_, e2⟩
      have ht : t < args'.size := by
        have := (List.getElem?_eq_some_iff.1 e1).1
        simpa using this
      rw [Array.getElem?_append_left ht]
      simpa using e1) (fun n hn => by rw [via, if_neg (by omega)]) (Nat.le_refl _) (by simp; omega) rfl
  have henter : Frame.enter C.P f args' .normal = ({ (default : Frame) with fn := f, kind := .normal } : Frame).at { tmps := args' ++ Array.replicate (g.ntmps - args'.size) undef, defers := [] } [.code c] := by
    simp [Frame.enter, Frame.at, hg, hb]
  have A2 := After.ofK (ιt := ι.via (low m.length)) via rfl A
  have hle : ι'.le { ι' with loc := fun n => if n < m'.length then ι' n else ι n } := by
    refine ⟨fun n l h => ?_, fun _ _ h => h⟩
    show (if n < m'.length then ι' n else ι n) = some l
    split
    · exact h
    · rw [A.tight n (by omega)] at h; cases h
  exact ⟨.returned v', w', fr, ⟨v', _, rfl, A2, q8.mono hle⟩, by rw [henter]; exact q1, q2, q4, q5, q3, g, by rw [q2]; exact hg, q6⟩

/-! ### A call on values alone -/

theorem Con.ok (h : Con C f args m v m') : ∃ fn, C.P.funcs[f]? = some fn ∧ (fn.name == "runtime.NumGoroutine") = false ∧ fn.body.isNone = false := h.2.1

variable {as : List Value} {ns ns2 : List Nat}

/-- The machine's side of a call on values alone. -/
theorem Con.inner (h : Con C f as (m.take C.G) v0 m2) (has : mapF (frz 64 m) args = some (as, ns)) (hGm : C.G ≤ m.length) (hglob : (m.take C.G).all (fun b => !b.own && b.cells.all inert) = true)
    {B : Nat} {ι : Emb} {w : World} {args' : Array Value} (R : Rep B ι m w) (hG : GlobOK C ι) (hB : B ≤ w.heap.size) (hargs : VRL ι args args'.toList) :
    After B ι m w (ι.freeze (Spots ι m ns) w) (sealM m ns) w ∧ (∀ (n : Nat) (b : Blk), ((sealM m ns).take C.G)[n]? = some b → b.own = false) ∧
    Calls C.P f args' w fun e w' => ∃ v' ι1, e = .returned v' ∧ After B ((ι.freeze (Spots ι m ns) w).cut C.G) ((sealM m ns).take C.G) w ι1 m2 w' ∧ VR ι1 v0 v' := by
  have seen := mapF_seen (frz_seen R 64) _ _ _ _ has hargs
  have S := After.seal R seen
  have las := mapF_sound (fun v v' vf ns => frz_sound R (freeze_le R _).fz 64 v v' vf ns) _ _ _ _ has (freeze_iced R ns) hargs
  have hall : ∀ (n : Nat) (b : Blk), (m.take C.G)[n]? = some b → b.own = false ∧ b.cells.all inert = true := by
    intro n b hn
    have := hglob
    rw [List.all_eq_true] at this
    have := this b (List.mem_of_getElem? hn)
    simpa using this
  have hsame : (sealM m ns).take C.G = m.take C.G := by
    apply List.ext_getElem?
    intro n
    rw [List.getElem?_take, List.getElem?_take]
    split
    · rename_i hn
      have hnm : n < m.length := by omega
      have h1 : (sealM m ns)[n]? = some ((sealM m ns)[n]'(by rw [seal_len]; exact hnm)) := List.getElem?_eq_getElem _
      obtain ⟨b, q1, q2, q3, q4, q5⟩ := seal_get ns m n _ h1
      rw [h1, q1]
      rcases q5 with ⟨_, q5⟩ | ⟨_, q5⟩
      · have ho := (hall n b (by rw [List.getElem?_take, if_pos hn]; exact q1)).1
        generalize (sealM m ns)[n]'(by rw [seal_len]; exact hnm) = b' at q2 q3 q4 q5
        cases b; cases b'
        simp only at q2 q3 q4 q5 ho
        subst q2 q3 q4 q5 ho
        rfl
      · rw [q5]
    · rfl
  have hin : ∀ (n : Nat) (b : Blk), ((sealM m ns).take C.G)[n]? = some b → b.cells.all inert = true := fun n b hn => by
    rw [hsame] at hn
    exact (hall n b hn).2
  have hown : ∀ (n : Nat) (b : Blk), ((sealM m ns).take C.G)[n]? = some b → b.own = false := fun n b hn => by
    rw [hsame] at hn
    exact (hall n b hn).1
  have R1 := cut_rep S.rep C.G hin
  have hG1 : GlobOK C ((ι.freeze (Spots ι m ns) w).cut C.G) := by
    intro n hn
    obtain ⟨l, q1, q2⟩ := hG n hn
    exact ⟨l, by simp only [Emb.cut]; rw [if_pos hn]; exact q1, q2⟩
  have hfree : Free ((ι.freeze (Spots ι m ns) w).cut C.G) ((sealM m ns).take C.G).length m2.length := by
    intro n h1 _
    simp only [List.length_take, seal_len] at h1
    simp only [Emb.cut]
    rw [if_neg (by omega)]
  rw [← hsame] at h
  exact ⟨S, hown, h.2.2 B _ w args' R1 hG1 hB (las.mono (show (ι.freeze (Spots ι m ns) w).bare.le ((ι.freeze (Spots ι m ns) w).cut C.G) from ⟨fun _ _ e => by simp [Emb.bare] at e, fun _ _ e => e⟩)) hfree⟩

/-- What is answered is frozen, and what was handed over too. -/
theorem Con.still (h : Con C f as (m.take C.G) v0 m2) (has : mapF (frz 64 m) args = some (as, ns)) (hv : frz 64 m2 v0 = some (v', ns2)) (hGm : C.G ≤ m.length) (hglob : (m.take C.G).all (fun b => !b.own && b.cells.all inert) = true) : Con C f args m v' (sealM m ns) := by
  refine ⟨seal_grow m ns, h.ok, fun B ι w args' R hG hB hargs _ => ?_⟩
  obtain ⟨S, hown, hcall⟩ := h.inner has hGm hglob R hG hB hargs
  refine hcall.mono ?_
  rintro e w' ⟨v1, ι1, rfl, A, r⟩
  have A2 := After.still S.rep hown A ns2
  refine ⟨v1, _, rfl, S.trans A2, ?_⟩
  have := frz_sound (ι' := ι1.freeze (Spots ι1 m2 ns2) w') A.rep (freeze_le A.rep ns2).fz 64 v0 v1 _ ns2 hv (freeze_iced A.rep ns2) r
  exact this.mono (show (ι1.freeze (Spots ι1 m2 ns2) w').bare.le { (ι.freeze (Spots ι m ns) w) with fz := (ι1.freeze (Spots ι1 m2 ns2) w').fz } from ⟨fun _ _ e => by simp [Emb.bare] at e, fun _ _ e => e⟩)
end
end Go.Ab
