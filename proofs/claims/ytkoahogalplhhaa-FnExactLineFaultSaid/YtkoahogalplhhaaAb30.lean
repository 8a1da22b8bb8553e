/- Part of an own evaluator of Go code on numbered blocks, and of the proof that the machine does what it says; each theorem carries its own conditions. -/
import Derived.Test.YtkoahogalplhhaaAb29
set_option linter.unusedVariables false
set_option linter.unusedSimpArgs false
namespace Go.Ab

/-! ## A whole function, up to its loops -/

def vzip (f : Value → Value → Option Value) : List Value → List Value → Option (List Value)
  | [], [] => some []
  | x :: xs, y :: ys => match f x y with
    | none => none
    | some z => match vzip f xs ys with
      | none => none
      | some zs => some (z :: zs)
  | _, _ => none

/-- One value or the other. -/
def vcond (b : Bool) : Nat → Value → Value → Option Value
  | 0, _, _ => none
  | k + 1, v, w => match v, w with
    | .bool x, .bool y => some (.bool (bif b then x else y))
    | .int p x, .int q y => if p = q then some (.int p (bif b then x else y)) else none
    | .string x, .string y => some (.string (bif b then x else y))
    | .agg xs, .agg ys => match vzip (vcond b k) xs.toList ys.toList with
      | some zs => some (.agg zs.toArray)
      | none => none
    | .tuple xs, .tuple ys => match vzip (vcond b k) xs.toList ys.toList with
      | some zs => some (.tuple zs.toArray)
      | none => none
    | .iface n (.agg xs), .iface n' (.agg ys) => some (.iface (bif b then n else n') (.agg (bif b then xs else ys)))
    | .iface n (.tuple xs), .iface n' (.tuple ys) => some (.iface (bif b then n else n') (.tuple (bif b then xs else ys)))
    | .pointer none, .pointer none => some (.pointer none)
    | .nilFunc, .nilFunc => some .nilFunc
    | _, _ => none

theorem vzip_fst {f : Value → Value → Option Value} : ∀ {xs ys zs : List Value}, (∀ x y z, f x y = some z → z = x) → vzip f xs ys = some zs → zs = xs
  | [], [], zs, _, h => by simp only [vzip] at h; cases h; rfl
  | x :: xs, y :: ys, zs, hf, h => by
    simp only [vzip] at h
    split at h
    · cases h
    · rename_i z hz
      split at h
      · cases h
      · rename_i zs' hzs
        cases h
        rw [hf x y z hz, vzip_fst hf hzs]
  | [], _ :: _, zs, _, h => by simp [vzip] at h
  | _ :: _, [], zs, _, h => by simp [vzip] at h

theorem vzip_snd {f : Value → Value → Option Value} : ∀ {xs ys zs : List Value}, (∀ x y z, f x y = some z → z = y) → vzip f xs ys = some zs → zs = ys
  | [], [], zs, _, h => by simp only [vzip] at h; cases h; rfl
  | x :: xs, y :: ys, zs, hf, h => by
    simp only [vzip] at h
    split at h
    · cases h
    · rename_i z hz
      split at h
      · cases h
      · rename_i zs' hzs
        cases h
        rw [hf x y z hz, vzip_snd hf hzs]
  | [], _ :: _, zs, _, h => by simp [vzip] at h
  | _ :: _, [], zs, _, h => by simp [vzip] at h

theorem vcond_true : ∀ (k : Nat) (x y z : Value), vcond true k x y = some z → z = x := by
  intro k
  induction k with
  | zero => intro x y z h; simp [vcond] at h
  | succ k ih =>
    intro x y z h
    unfold vcond at h
    split at h
    · cases h; rfl
    · split at h
      · rename_i e; cases h; rfl
      · cases h
    · cases h; rfl
    · split at h
      · rename_i zs hz; cases h; rw [vzip_fst ih hz]
      · cases h
    · split at h
      · rename_i zs hz; cases h; rw [vzip_fst ih hz]
      · cases h
    · cases h; rfl
    · cases h; rfl
    · cases h; rfl
    · cases h; rfl
    · cases h

theorem vcond_false : ∀ (k : Nat) (x y z : Value), vcond false k x y = some z → z = y := by
  intro k
  induction k with
  | zero => intro x y z h; simp [vcond] at h
  | succ k ih =>
    intro x y z h
    unfold vcond at h
    split at h
    · cases h; rfl
    · split at h
      · rename_i e; cases h; rw [e]; rfl
      · cases h
    · cases h; rfl
    · split at h
      · rename_i zs hz; cases h; rw [vzip_snd ih hz]
      · cases h
    · split at h
      · rename_i zs hz; cases h; rw [vzip_snd ih hz]
      · cases h
    · cases h; rfl
    · cases h; rfl
    · cases h; rfl
    · cases h; rfl
    · cases h

/-! What has to be shown; none: nothing. -/
def Holds : Option Prop → Prop
  | none => True
  | some p => p
def psP : List Prop → Option Prop
  | [] => none
  | p :: ps => some (AllP (p :: ps))
def andP : Option Prop → Option Prop → Option Prop
  | none, q => q
  | some p, none => some p
  | some p, some q => some (p ∧ q)
def condP (b : Bool) : Option Prop → Option Prop → Option Prop
  | none, none => none
  | some p, none => some (b = true → p)
  | none, some q => some (b = false → q)
  | some p, some q => some ((b = true → p) ∧ (b = false → q))

theorem psP_sound {ps : List Prop} (h : Holds (psP ps)) : AllP ps := by
  cases ps with
  | nil => exact trivial
  | cons p ps => exact h

theorem andP_sound {p q : Option Prop} (h : Holds (andP p q)) : Holds p ∧ Holds q := by
  cases p <;> cases q
  · exact ⟨trivial, trivial⟩
  · exact ⟨trivial, h⟩
  · exact ⟨h, trivial⟩
  · exact h

theorem condP_true {p q : Option Prop} (h : Holds (condP true p q)) : Holds p := by
  cases p <;> cases q
  · exact trivial
  · exact trivial
  · exact h rfl
  · exact h.1 rfl

theorem condP_false {p q : Option Prop} (h : Holds (condP false p q)) : Holds q := by
  cases p <;> cases q
  · exact trivial
  · exact h rfl
  · exact trivial
  · exact h.2 rfl

section
variable (C : Cfg) (K : Spec) (L : List Inst) (D : List (Tmp × Value)) (fn : Func)

def codeOk : Code → Bool
  | .seq a b => codeOk a && codeOk b
  | .cond _ a b => codeOk a && codeOk b
  | .block _ a => codeOk a
  | .loop a => codeOk a
  | .region _ ops draw => regOk C fn.ntmps ops.toList draw
  | _ => true

def itemOk : Item → Bool
  | .code c => codeOk C fn c
  | .inLoop c => codeOk C fn c
  | _ => true

def sLeaf (T : Tm) (m : Mem) (H : List Value) : Option (Option Prop × Value × List Value) :=
  match resultA C fn m T with
  | some v0 => match sfrz 64 m v0 with
    | some (ps, v) => some (psP ps, v, H)
    | none => none
  | none => none

def sRun : Nat → List Item → Tm → Mem → List Value → Option (Option Prop × Value × List Value)
  | 0, _, _, _, _ => none
  | k + 1, todo, T, m, H => match todo with
    | [] => sLeaf C fn T m H
    | .inBlock _ :: r => sRun k r T m H
    | .inLoop c :: r => match H with
      | h :: H' => some (some (RunF C fn (.code c :: .inLoop c :: r) T m h), h, H')
      | [] => none
    | .code c :: r => match c with
      | .skip => sRun k r T m H
      | .ret => sLeaf C fn T m H
      | .seq a b => sRun k (.code a :: .code b :: r) T m H
      | .block id c => sRun k (.code c :: .inBlock id :: r) T m H
      | .loop c => match H with
        | h :: H' => some (some (RunF C fn (.code c :: .inLoop c :: r) T m h), h, H')
        | [] => none
      | .exit id => match exitTo id r with
        | some r' => sRun k r' T m H
        | none => none
      | .cond c a b => match ev C T c with
        | some (.bool t) => match sRun k (.code a :: r) T m H with
          | some (P1, v1, H1) => match sRun k (.code b :: r) T m H1 with
            | some (P2, v2, H2) => match vcond t 16 v1 v2 with
              | some v => some (condP t P1 P2, v, H2)
              | none => none
            | none => none
          | none => none
        | _ => none
      | .region _ ops draw => match sOps C K L ops.toList D ops.toList T [] m with
        | some (ps, T', m', E, ch, ta) => match calm C ops.toList E draw ch ta with
          | some qs => match sRun k r T' m' H with
            | some (P, v, H') => some (andP (psP (ps ++ qs)) P, v, H')
            | none => none
          | none => none
        | none => none
      | _ => none
    | _ => none
end

section
variable {C : Cfg} {K : Spec} {L : List Inst} {D : List (Tmp × Value)} {fn : Func}

theorem exitTo_mem {id : Nat} : ∀ {r r' : List Item}, exitTo id r = some r' → ∀ i ∈ r', i ∈ r
  | [], r', h => by simp [exitTo] at h
  | i :: r, r', h => by
    have rest : exitTo id r = some r' → ∀ x ∈ r', x ∈ i :: r := fun h x hx => List.mem_cons_of_mem _ (exitTo_mem h x hx)
    unfold exitTo at h
    split at h
    · rename_i e
      cases e
      split at h
      · cases h
        exact fun x hx => List.mem_cons_of_mem _ hx
      · exact rest h
    · rename_i e
      cases e
      exact rest h
    · rename_i e
      cases e

variable (hC : CfgOK C) (h0 : C.G = 0) (hK : SpecOK C K) (hL : ∀ i ∈ L, Con C i.f i.args i.m i.v i.m')
include hC h0 hK hL

omit hC h0 hK hL in
theorem sLeaf_sound {T : Tm} {m : Mem} {H H' : List Value} {P : Option Prop} {v : Value} (h : sLeaf C fn T m H = some (P, v, H')) (hp : Holds P) : ∃ v0 ns, resultA C fn m T = some v0 ∧ frz 64 m v0 = some (v, ns) := by
  unfold sLeaf at h
  split at h
  · rename_i v0 hr
    split at h
    · rename_i ps v1 hs
      cases h
      obtain ⟨ns, hn⟩ := sfrz_sound m 64 _ _ _ hs (psP_sound hp)
      exact ⟨v0, ns, hr, hn⟩
    · cases h
  · cases h

theorem sRun_sound : ∀ (k : Nat) (todo : List Item) (T : Tm) (m : Mem) (H : List Value) (P : Option Prop) (v : Value) (H' : List Value), sRun C K L D fn k todo T m H = some (P, v, H') → (∀ i ∈ todo, itemOk C fn i = true) → Holds P → RunF C fn todo T m v := by
  intro k
  induction k with
  | zero => intro todo T m H P v H' h; simp [sRun] at h
  | succ k ih =>
    intro todo T m H P v H' h hok hp
    have lift : ∀ {todo' : List Item}, RunF C fn todo' T m v → (∀ {v0 m'}, Run C 0 fn todo' T m v0 m' → Run C 0 fn todo T m v0 m') → RunF C fn todo T m v := by
      rintro todo' ⟨v0, m', ns, h1, h2⟩ hr
      exact ⟨v0, m', ns, hr h1, h2⟩
    unfold sRun at h
    split at h
    · obtain ⟨v0, ns, h1, h2⟩ := sLeaf_sound h hp
      exact ⟨v0, m, ns, .end hC h1, h2⟩
    · exact lift (ih _ _ _ _ _ _ _ h (fun i hi => hok i (List.mem_cons_of_mem _ hi)) hp) .inBlock
    · split at h
      · cases h
        exact lift hp .inLoop
      · cases h
    · rename_i c r
      have hc := hok (.code c) (List.mem_cons_self ..)
      have hr : ∀ i ∈ r, itemOk C fn i = true := fun i hi => hok i (List.mem_cons_of_mem _ hi)
      have cons : ∀ {x : Item} {l : List Item}, itemOk C fn x = true → (∀ i ∈ l, itemOk C fn i = true) → ∀ i ∈ x :: l, itemOk C fn i = true := by
        intro x l h1 h2 i hi
        rw [List.mem_cons] at hi
        rcases hi with rfl | hi
        · exact h1
        · exact h2 i hi
      split at h
      · exact lift (ih _ _ _ _ _ _ _ h hr hp) .skip
      · obtain ⟨v0, ns, h1, h2⟩ := sLeaf_sound h hp
        exact ⟨v0, m, ns, .ret hC h1, h2⟩
      · rename_i a b
        have hc' : codeOk C fn a = true ∧ codeOk C fn b = true := by
          have : (codeOk C fn a && codeOk C fn b) = true := hc
          simpa using this
        exact lift (ih _ _ _ _ _ _ _ h (cons hc'.1 (cons hc'.2 hr)) hp) .seq
      · exact lift (ih _ _ _ _ _ _ _ h (cons hc (cons rfl hr)) hp) .block
      · split at h
        · cases h
          exact lift hp .loop
        · cases h
      · split at h
        · rename_i r' he
          exact lift (ih _ _ _ _ _ _ _ h (fun i hi => hr i (exitTo_mem he i hi)) hp) (.exit he)
        · cases h
      · rename_i c a b
        have hc' : codeOk C fn a = true ∧ codeOk C fn b = true := by
          have : (codeOk C fn a && codeOk C fn b) = true := hc
          simpa using this
        split at h
        · rename_i t ht
          split at h
          · rename_i P1 v1 H1 h1
            split at h
            · rename_i P2 v2 H2 h2
              split at h
              · rename_i v3 hv
                cases h
                cases t with
                | true =>
                  cases vcond_true _ _ _ _ hv
                  exact lift (ih _ _ _ _ _ _ _ h1 (cons hc'.1 hr) (condP_true hp)) (.tt ht)
                | false =>
                  cases vcond_false _ _ _ _ hv
                  exact lift (ih _ _ _ _ _ _ _ h2 (cons hc'.2 hr) (condP_false hp)) (.ff ht)
              · cases h
            · cases h
          · cases h
        · cases h
      · split at h
        · rename_i ps T' m' E ch ta hs
          split at h
          · rename_i qs hq
            split at h
            · rename_i P1 v1 H1 h1
              cases h
              have hpp := andP_sound hp
              have hps := (psP_sound hpp.1).append
              exact RunF.region hC h0 hK hL hc hs hq hps.1 hps.2 (ih _ _ _ _ _ _ _ h1 hr hpp.2)
            · cases h
          · cases h
        · cases h
      · cases h
    · cases h

/-- A contract by evaluation. -/
theorem Fz.of_sRun {f : FuncId} {c : Code} {args : List Value} {P : Option Prop} {v v' : Value} {H H' : List Value} {k : Nat} (hg : C.P.funcs[f]? = some fn) (hb : fn.body = some c) (hl : args.length ≤ fn.ntmps) (hn : (fn.name == "runtime.NumGoroutine") = false)
    (hlow : renL 16 inert (low 0) args = some args) (hok : codeOk C fn c = true) (h : sRun C K L D fn k [.code c] (argsT 0 args) [] H = some (P, v, H')) (hp : Holds P) (he : v = v') : Fz C f args v' := by
  subst he
  refine Fz.of_run h0 hg hb hl hn (renL_sound hlow) (sRun_sound hC h0 hK hL _ _ _ _ _ _ _ _ h (fun i hi => ?_) hp)
  simp only [List.mem_singleton] at hi
  subst hi
  exact hok
end
end Go.Ab
