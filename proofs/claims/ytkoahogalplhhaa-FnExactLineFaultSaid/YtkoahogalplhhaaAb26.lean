/- Part of an own evaluator of Go code on numbered blocks, and of the proof that the machine does what it says; each theorem carries its own conditions. -/
import Derived.Test.YtkoahogalplhhaaAb25
set_option linter.unusedVariables false
set_option linter.unusedSimpArgs false
namespace Go.Ab

/-! ## Contracts on values alone, and their table -/

/-- The value has neither names nor parts that are frozen elsewhere. -/
def Deep (v : Value) : Prop := RN hard (fun _ => none) v v

/-- A call on values alone. -/
def Fz (C : Cfg) (f : FuncId) (as : List Value) (v : Value) : Prop := ∃ v0 m2 ns, Con C f as [] v0 m2 ∧ frz 64 m2 v0 = some (v, ns)

section
variable {C : Cfg} {f : FuncId} {args as : List Value} {m m2 : Mem} {v v0 : Value} {ns ns2 : List Nat}

theorem Con.plain (h : Con C f as (m.take C.G) v0 m2) (has : mapF (frz 64 m) args = some (as, ns)) (hv : frz 64 m2 v0 = some (v, ns2)) (hd : Deep v) (hGm : C.G ≤ m.length) (hglob : (m.take C.G).all (fun b => !b.own && b.cells.all inert) = true) : Con C f args m v m := by
  refine ⟨.refl m, h.ok, fun B ι w args' R hG hB hargs hF => ?_⟩
  obtain ⟨S, hown, hcall⟩ := h.inner has hGm hglob R hG hB hargs
  refine hcall.mono ?_
  rintro e w' ⟨v1, ι1, rfl, A, r⟩
  have frame : ∀ g, g < w.heap.size → w'.heap[g]? = w.heap[g]? := fun g h => A.frame g h fun n l b _ q2 _ q4 => by
    have := hown n b q2
    rw [q4] at this
    cases this
  have r1 := frz_sound (ι' := ι1.freeze (Spots ι1 m2 ns2) w') A.rep (freeze_le A.rep ns2).fz 64 v0 v1 _ ns2 hv (freeze_iced A.rep ns2) r
  refine ⟨v1, ι, rfl, ?_, hd.forth (fun v v' h r => r.hard h) (fun n n' l h => by cases h) v1 r1⟩
  refine { len := Nat.le_refl _, keep := fun _ _ => rfl, rep := ⟨?_, R.apart, R.base, R.es, ?_, R.cold, R.kept⟩, frame := fun g h _ => frame g h, origin := ?_, alive := fun k b' _ h => ⟨b', h, rfl, id, id⟩, fz := fun _ _ h => h, ice := fun g h => .inl h, unreal := fun _ _ _ => rfl, os := A.os, tape := A.tape, output := A.output, size := A.size }
  · intro n l b h1 h2 h3
    have M := R.cells n l b h1 h2 h3
    exact M.heap (frame _ M.lt)
  · intro g c h
    obtain ⟨e, z, hz⟩ := R.frozen g c h
    exact ⟨e, z, by rw [frame g (Array.getElem?_eq_some_iff.1 hz).1]; exact hz⟩
  · intro n l b h1 _ h3 _
    have := (List.getElem?_eq_some_iff.1 h3).1
    omega

/-- A table of contracts: what has to hold of the arguments, and the answer. -/
abbrev Spec := FuncId → List Value → Option (Prop × Value)

def SpecOK (C : Cfg) (K : Spec) : Prop := ∀ f as P v, K f as = some (P, v) → P → Fz C f as v

open Classical in
/-- Calls by the table; some calls by hand. -/
noncomputable def callK (K : Spec) (L : List Inst) : CallF := fun f args m =>
  match L.find? (fun i => i.f == f) with
  | some i => if args = i.args ∧ m = i.m then some (i.v, i.m') else none
  | none => match mapF (frz 64 m) args with
    | some (as, ns) => match K f as with
      | some (P, v) => if P ∧ (Deep v ∨ ns = []) then some (v, m) else none
      | none => none
    | none => none

theorem callK_ok {K : Spec} {L : List Inst} (h0 : C.G = 0) (hK : SpecOK C K) (hL : ∀ i ∈ L, Con C i.f i.args i.m i.v i.m') : CallOK C (callK K L) := by
  intro f args m v m' h
  unfold callK at h
  split at h
  · rename_i i hi
    have h1 := List.find?_some hi
    have h2 := List.mem_of_find?_eq_some hi
    have e : i.f = f := by simpa using h1
    split at h
    · rename_i hc
      obtain ⟨rfl, rfl⟩ := hc
      cases h
      subst e
      exact hL i h2
    · cases h
  · split at h
    · rename_i as ns has
      split at h
      · rename_i P v1 hk
        split at h
        · rename_i hP
          cases h
          obtain ⟨v0, m2, ns2, hcon, hfr⟩ := hK _ _ _ _ hk hP.1
          have ht : m.take C.G = [] := by rw [h0]; rfl
          rcases hP.2 with hd | hn
          · exact Con.plain (by rw [ht]; exact hcon) has hfr hd (by omega) (by rw [ht]; rfl)
          · subst hn
            exact Con.still (by rw [ht]; exact hcon) has hfr (by omega) (by rw [ht]; rfl)
        · cases h
      · cases h
    · cases h
end

/-- A run whose answer is frozen. -/
def RunF (C : Cfg) (fn : Func) (todo : List Item) (T : Tm) (m : Mem) (v : Value) : Prop := ∃ v0 m' ns, Run C 0 fn todo T m v0 m' ∧ frz 64 m' v0 = some (v, ns)

section
variable {C : Cfg} {f : FuncId} {g : Func} {c : Code} {args : List Value} {v : Value}

theorem Fz.of_run (h0 : C.G = 0) (hg : C.P.funcs[f]? = some g) (hb : g.body = some c) (hl : args.length ≤ g.ntmps) (hn : (g.name == "runtime.NumGoroutine") = false) (hlow : RNL inert (low 0) args args)
    (h : RunF C g [.code c] (argsT 0 args) [] v) : Fz C f args v := by
  obtain ⟨v0, m', ns, h1, h2⟩ := h
  exact ⟨v0, m', ns, Con.of_run hg hb hl hn (by rw [h0]; exact Nat.le_refl _) ⟨by simp, fun k b hb => by simp at hb⟩ .nil hlow h1, h2⟩

theorem RunF.norm {fn : Func} {todo : List Item} {T T0 : Tm} {m m0 : Mem} (h0 : C.G = 0) (π : Nat → Option Nat) (hT : SimT inert π T T0) (S : SimM inert π m0 m) (h : RunF C fn todo T0 m0 v) : RunF C fn todo T m v := by
  obtain ⟨v0, m', ns, h1, h2⟩ := h
  exact ⟨v0, m', ns, h1.norm π hT S .zero (by omega), h2⟩
end

/-! ### Freezing, with lists of unknown length -/

/-- A cell that freezing leaves as it is. -/
def fixd : Value → Bool
  | .bool _ | .int _ _ | .string _ | .nilFunc | .pointer none | .iface _ _ => true
  | _ => false

def AllP : List Prop → Prop
  | [] => True
  | [p] => p
  | p :: q :: ps => p ∧ AllP (q :: ps)

theorem AllP.cons {p : Prop} {ps : List Prop} (h : AllP (p :: ps)) : p ∧ AllP ps := by
  cases ps with
  | nil => exact ⟨h, trivial⟩
  | cons q qs => exact h

theorem AllP.append {ps qs : List Prop} (h : AllP (ps ++ qs)) : AllP ps ∧ AllP qs := by
  induction ps with
  | nil => exact ⟨trivial, h⟩
  | cons p ps ih =>
    have h1 := AllP.cons (ps := ps ++ qs) h
    have h2 := ih h1.2
    refine ⟨?_, h2.2⟩
    cases ps with
    | nil => exact h1.1
    | cons q ps => exact ⟨h1.1, h2.1⟩

theorem AllP.singl {p : Prop} (h : AllP [p]) : p := h

def mapS (f : Value → Option (List Prop × Value)) : List Value → Option (List Prop × List Value)
  | [] => some ([], [])
  | x :: xs => match f x with
    | none => none
    | some (p, y) => match mapS f xs with
      | none => none
      | some (q, ys) => some (p ++ q, y :: ys)

def sfrz : Nat → Mem → Value → Option (List Prop × Value)
  | 0, _, _ => none
  | k + 1, m, v => match v with
    | .agg cs => match mapS (sfrz k m) cs.toList with
      | some (p, xs) => some (p, .agg xs.toArray)
      | none => none
    | .tuple cs => match mapS (sfrz k m) cs.toList with
      | some (p, xs) => some (p, .tuple xs.toArray)
      | none => none
    | .slice none 0 0 => some ([], roS 0 [])
    | .slice (some p) len _ => match k with
      | 0 => none
      | _ + 1 => match m[p.block]? with
        | some b => if b.live = true then some ([((b.cells.drop p.off).take (len * b.es)).all fixd = true ∧ p.off + len * b.es ≤ b.cells.length], roS len ((b.cells.drop p.off).take (len * b.es))) else none
        | none => none
    | .pointer (some p) => match m[p.block]? with
      | some b => if b.live = true then match mapS (sfrz k m) (b.cells.drop p.off) with
          | some (q, xs) => some (q ++ [p.off ≤ b.cells.length], roP xs)
          | none => none
        else none
      | none => none
    | .pointer none => some ([], .pointer none)
    | .func fn a b => if a.size = 0 ∧ b.size = 0 then some ([], .func fn #[] #[]) else none
    | .bool b => some ([], .bool b)
    | .int k n => some ([], .int k n)
    | .string s => some ([], .string s)
    | .nilFunc => some ([], .nilFunc)
    | .iface n x => some ([], .iface n x)
    | _ => none

theorem mapS_sound {f : Value → Option (List Prop × Value)} {g : Value → Option (Value × List Nat)} (hf : ∀ v p v', f v = some (p, v') → AllP p → ∃ ns, g v = some (v', ns)) :
    ∀ (vs : List Value) p vs', mapS f vs = some (p, vs') → AllP p → ∃ ns, mapF g vs = some (vs', ns)
  | [], p, vs', h, _ => by simp only [mapS] at h; cases h; exact ⟨[], rfl⟩
  | v :: vs, p, vs', h, hp => by
    simp only [mapS] at h
    split at h
    · cases h
    · rename_i p1 y hy
      split at h
      · cases h
      · rename_i q ys hys
        cases h
        have := hp.append
        obtain ⟨n1, h1⟩ := hf v p1 y hy this.1
        obtain ⟨n2, h2⟩ := mapS_sound hf vs q ys hys this.2
        exact ⟨n1 ++ n2, by simp only [mapF, h1, h2]⟩

theorem frz_fixd {k : Nat} {m : Mem} {v : Value} (h : fixd v = true) : frz (k + 1) m v = some (v, []) := by
  unfold fixd at h
  split at h <;> first | rfl | cases h

theorem mapF_fixd {k : Nat} {m : Mem} : ∀ {vs : List Value}, vs.all fixd = true → mapF (frz (k + 1) m) vs = some (vs, [])
  | [], _ => rfl
  | v :: vs, h => by
    simp only [List.all_cons, Bool.and_eq_true] at h
    simp only [mapF, frz_fixd h.1, mapF_fixd h.2]
    rfl

theorem sfrz_sound (m : Mem) : ∀ (k : Nat) v p v', sfrz k m v = some (p, v') → AllP p → ∃ ns, frz k m v = some (v', ns) := by
  intro k
  induction k with
  | zero => intro v p v' h; simp [sfrz] at h
  | succ k ih =>
    intro v p v' h hp
    unfold sfrz at h
    split at h
    · split at h
      · rename_i q xs hx
        cases h
        obtain ⟨ns, hn⟩ := mapS_sound ih _ _ _ hx hp
        exact ⟨ns, by simp only [frz, hn]⟩
      · cases h
    · split at h
      · rename_i q xs hx
        cases h
        obtain ⟨ns, hn⟩ := mapS_sound ih _ _ _ hx hp
        exact ⟨ns, by simp only [frz, hn]⟩
      · cases h
    · cases h; exact ⟨_, rfl⟩
    · rename_i q len cap
      split at h
      · cases h
      · rename_i k1
        split at h
        · rename_i b hb
          split at h
          · rename_i hlive
            cases h
            obtain ⟨h1, h2⟩ := hp.singl
            by_cases h0 : len = 0
            · subst h0
              refine ⟨[], ?_⟩
              simp [frz, roS]
            · refine ⟨q.block :: [], ?_⟩
              have hm := mapF_fixd (k := k1) (m := m) h1
              generalize hF : frz (k1 + 1) m = F at hm
              unfold frz
              simp only [if_neg h0, hb, if_pos hlive]
              have : rd m q.block q.off (len * b.es) = some ((b.cells.drop q.off).take (len * b.es)) := by
                unfold rd
                split
                · rename_i hz; rw [hz]; simp
                · simp only [hb, hlive, h2, and_self, if_true]
              rw [this]
              simp only [Nat.succ_eq_add_one, hF, hm]
          · cases h
        · cases h
    · rename_i q
      split at h
      · rename_i b hb
        split at h
        · rename_i hlive
          split at h
          · rename_i q1 xs hx
            cases h
            have := hp.append
            obtain ⟨ns, hn⟩ := mapS_sound ih _ _ _ hx this.1
            refine ⟨q.block :: ns, ?_⟩
            simp only [frz, hb, hlive, this.2.singl, and_self, if_true, hn]
          · cases h
        · cases h
      · cases h
    · cases h; exact ⟨_, rfl⟩
    · split at h
      · rename_i hc
        cases h
        exact ⟨[], by simp only [frz, if_pos hc]⟩
      · cases h
    · cases h; exact ⟨_, rfl⟩
    · cases h; exact ⟨_, rfl⟩
    · cases h; exact ⟨_, rfl⟩
    · cases h; exact ⟨_, rfl⟩
    · cases h; exact ⟨_, rfl⟩
    · cases h
end Go.Ab
