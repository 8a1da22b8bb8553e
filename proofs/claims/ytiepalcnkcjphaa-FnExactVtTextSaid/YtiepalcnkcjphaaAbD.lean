/- Part of an own evaluator of Go code on numbered blocks, and of the proof that the machine does what it says; each theorem carries its own conditions. -/
import Derived.Test.YtiepalcnkcjphaaAbC
import Derived.ChangeArms
import Derived.DataReads
import Derived.WideShapes
import Derived.Below
import Derived.Carry
import Derived.ChangeShapes
import Derived.OpenShut
import Derived.Laws.Strings
import Derived.Laws.StructEq
set_option linter.unusedVariables false
set_option linter.unusedSimpArgs false
namespace Go.Ab
structure Tn where
  t : Tmp
  key : Nat × Bool
  v : Value
def guardT (ops : List Oper) (j : Nat) : Option Tmp :=
  match ops[j]? with
  | some g => g.dst
  | none => none
def wantK (ops : List Oper) (T : Tm) (key : Nat × Bool) : Option Bool :=
  match guardT ops key.1 with
  | some t => match T.lookup t with
    | some (.bool b) => some (b == key.2)
    | some (.tuple _) => some false
    | _ => none
  | none => none
structure Taint (ops : List Oper) (Te T : Tm) (S : List Tn) : Prop where
  sub : Sub T Te
  val : ∀ e ∈ S, ∃ b, wantK ops Te e.key = some b ∧ (b = true → Te.lookup e.t = some e.v) ∧ (b = false → Te.lookup e.t = some (.tuple #[]))
section
variable (C : Cfg) (K : Spec) (K3 : Spec3) (O : List FuncId) (ops : List Oper)
def okD (S : List Tn) (d : Option Tmp) : Bool := d.isNone || S.all fun e => guardT ops e.key.1 != d && some e.t != d
def under (c : Bool) : List Prop → List Prop
  | [] => []
  | ps => [c = true → AllP ps]
def plain (D : List (Tmp × Value)) (d : Option Tmp) (v : Value) : List Prop × Value :=
  match d with
  | some t => match D.lookup t with
    | some w => ([v = w], w)
    | none => ([], v)
  | none => ([], v)
variable (D : List (Tmp × Value))
end
section
variable {C : Cfg} {K : Spec} {K3 : Spec3} {O : List FuncId} {ops : List Oper} {D : List (Tmp × Value)} {Te T : Tm} {S : List Tn} {m : Mem}
theorem lookup_put {T : Tm} {d : Option Tmp} {v : Value} {t : Tmp} (h : d ≠ some t) : (putD T d v).lookup t = T.lookup t := by
  cases d with
  | none => rfl
  | some d =>
    simp only [putD, List.lookup_cons]
    have : (t == d) = false := by
      simp only [beq_eq_false_iff_ne, ne_eq]
      rintro rfl
      exact h rfl
    rw [this]
theorem wantK_put {T : Tm} {d : Option Tmp} {v : Value} {key : Nat × Bool} (h : d = none ∨ guardT ops key.1 ≠ d) : wantK ops (putD T d v) key = wantK ops T key := by
  unfold wantK
  cases hg : guardT ops key.1 with
  | none => rfl
  | some t =>
    simp only
    rw [lookup_put]
    rcases h with h | h
    · rw [h]; simp
    · rw [hg] at h
      exact fun e => h e.symm
theorem okD_key {d : Option Tmp} (h : okD ops S d = true) {e : Tn} (he : e ∈ S) : (d = none ∨ guardT ops e.key.1 ≠ d) ∧ d ≠ some e.t := by
  unfold okD at h
  simp only [Bool.or_eq_true, Option.isNone_iff_eq_none, List.all_eq_true, Bool.and_eq_true, bne_iff_ne, ne_eq] at h
  rcases h with h | h
  · exact ⟨.inl h, by rw [h]; simp⟩
  · exact ⟨.inr (h e he).1, fun g => (h e he).2 g.symm⟩
theorem Taint.keep (I : Taint ops Te T S) {d : Option Tmp} (hd : okD ops S d = true) {v : Value} {e : Tn} (he : e ∈ S) :
    ∃ b, wantK ops (putD Te d v) e.key = some b ∧ (b = true → (putD Te d v).lookup e.t = some e.v) ∧ (b = false → (putD Te d v).lookup e.t = some (.tuple #[])) := by
  obtain ⟨b, e1, e2, e3⟩ := I.val e he
  have h2 := okD_key hd he
  refine ⟨b, by rw [wantK_put h2.1]; exact e1, ?_, ?_⟩
  · rw [lookup_put h2.2]; exact e2
  · rw [lookup_put h2.2]; exact e3
def regOk (C : Cfg) (N : Nat) (ops : List Oper) (draw : Bool) : Bool := ops.all (fun o => o.dst.all (· < N)) && (!draw || drawOk C ops)
end
end Go.Ab
namespace Go.Ab
section
variable (C : Cfg) (K : Spec) (K3 : Spec3) (O : List (Nat × FuncId)) (D : List (Tmp × Value)) (fn : Func)
def codeOk : Code → Bool
  | .seq a b => codeOk a && codeOk b
  | .cond _ a b => codeOk a && codeOk b
  | .block _ a => codeOk a
  | .loop a => codeOk a
  | .region _ ops draw => regOk C fn.ntmps ops.toList draw
  | _ => true
def itemOk : Item → Bool
  | .code c => codeOk C fn c
  | .inLoop c => codeOk C fn c
  | _ => true
end
section
variable {C : Cfg} {K : Spec} {K3 : Spec3} {O : List (Nat × FuncId)} {D : List (Tmp × Value)} {fn : Func}
theorem exitTo_mem {id : Nat} : ∀ {r r' : List Item}, exitTo id r = some r' → ∀ i ∈ r', i ∈ r
  | [], r', h => by simp [exitTo] at h
  | i :: r, r', h => by
    have rest : exitTo id r = some r' → ∀ x ∈ r', x ∈ i :: r := fun h x hx => List.mem_cons_of_mem _ (exitTo_mem h x hx)
    unfold exitTo at h
    split at h
    · rename_i e
      cases e
      split at h
      · cases h
        exact fun x hx => List.mem_cons_of_mem _ hx
      · exact rest h
    · rename_i e
      cases e
      exact rest h
    · rename_i e
      cases e
variable (hC : CfgOK C) (h0 : C.G = 0) (hK : SpecOK C K) (hK3 : Spec3OK C K3)
include hC h0 hK hK3
omit hC h0 hK hK3 in
end
end Go.Ab
namespace Go.Ab
def TD.ofB : TD → TypeDesc → Bool
  | .int k, .int k' => k == k'
  | .bool, .bool => true
  | .str, .string => true
  | .slice e, .slice e' => e == e'
  | .struct fs, .struct gs => gs.toList.map (fun f => (f.offset, f.type)) == fs
  | .ptr, .pointer _ => true
  | .func, .func _ _ _ => true
  | _, _ => false
def constEq : Value → Value → Bool
  | .bool a, .bool b => a == b
  | .int k a, .int k' b => k == k' && a == b
  | .string a, .string b => a.size == 0 && b.size == 0
  | .pointer none, .pointer none => true
  | .slice none 0 0, .slice none 0 0 => true
  | .nilFunc, .nilFunc => true
  | _, _ => false
def constEqL : List Value → List Value → Bool
  | [], [] => true
  | x :: xs, y :: ys => constEq x y && constEqL xs ys
  | _, _ => false
def tyB (P : Program) (t : Nat) (x : TI) : Bool :=
  match P.info? t, P.underlying t with
  | some i, some d => match i.zero with
    | some z => x.d.ofB d && i.size == x.size && i.bytes == x.bytes && constEqL z.cells.toList x.zero && x.zero.all constOk && x.zero.length == x.size && (match x.d with
      | .struct fs => fs.all fun p => (P.info? p.2).isSome
      | _ => true)
    | none => false
  | _, _ => false
theorem ofB_sound {d : TD} {x : TypeDesc} (h : d.ofB x = true) : d.of x := by
  unfold TD.ofB at h
  unfold TD.of
  split at h <;> first | trivial | (simpa using h) | cases h
theorem bytes_empty {a b : ByteArray} (h : a.size = 0) (g : b.size = 0) : a = b := by
  obtain ⟨x⟩ := a
  obtain ⟨y⟩ := b
  have h : x.size = 0 := h
  have g : y.size = 0 := g
  rw [Array.eq_empty_of_size_eq_zero h, Array.eq_empty_of_size_eq_zero g]
theorem constEq_sound {a b : Value} (h : constEq a b = true) : a = b := by
  unfold constEq at h
  split at h
  · simp only [beq_iff_eq] at h; rw [h]
  · simp only [Bool.and_eq_true, beq_iff_eq] at h; rw [h.1, h.2]
  · simp only [Bool.and_eq_true, beq_iff_eq] at h
    rw [bytes_empty h.1 h.2]
  · rfl
  · rfl
  · rfl
  · cases h
theorem constEqL_sound : ∀ {xs ys : List Value}, constEqL xs ys = true → xs = ys
  | [], [], _ => rfl
  | x :: xs, y :: ys, h => by
    simp only [constEqL, Bool.and_eq_true] at h
    rw [constEq_sound h.1, constEqL_sound h.2]
  | [], _ :: _, h => by cases h
  | _ :: _, [], h => by cases h
theorem tyB_sound {P : Program} {t : Nat} {x : TI} (h : tyB P t x = true) : TyFits P t x := by
  unfold tyB at h
  split at h
  · rename_i i d hi hd
    split at h
    · rename_i z hz
      simp only [Bool.and_eq_true, beq_iff_eq, List.all_eq_true] at h
      obtain ⟨⟨⟨⟨⟨⟨h1, h2⟩, h3⟩, h4⟩, h5⟩, h6⟩, h7⟩ := h
      refine ⟨⟨i, d, z, hi, hd, ofB_sound h1, h2, h3, hz, constEqL_sound h4⟩, h5, h6, fun fs hfs p hp => ?_⟩
      rw [hfs] at h7
      simp only [List.all_eq_true] at h7
      exact h7 p hp
    · cases h
  · cases h
def tyOf (l : List (Nat × TI)) (t : Nat) : TI := (l.lookup t).getD TI.none
theorem tyOf_fits {P : Program} {l : List (Nat × TI)} (h : l.all (fun p => tyB P p.1 p.2) = true) (t : Nat) (ht : isOther (tyOf l t).d = false) : TyFits P t (tyOf l t) := by
  unfold tyOf at ht ⊢
  cases hl : l.lookup t with
  | none => rw [hl] at ht; simp [TI.none, isOther] at ht
  | some x =>
    simp only [Option.getD_some]
    have hm : (t, x) ∈ l := by
      clear ht h
      induction l with
      | nil => simp at hl
      | cons p l ih =>
        obtain ⟨a, b⟩ := p
        rw [List.lookup_cons] at hl
        split at hl
        · rename_i e
          have e : t = a := by simpa using e
          subst e
          cases hl
          exact List.mem_cons_self ..
        · exact List.mem_cons_of_mem _ (ih hl)
    rw [List.all_eq_true] at h
    exact tyB_sound (h _ hm)
end Go.Ab
namespace Go.Ab
theorem all_nil : AllP [] := trivial
theorem all_cons {p : Prop} {ps : List Prop} (h : p) (g : AllP ps) : AllP (p :: ps) := by
  cases ps
  · exact h
  · exact ⟨h, g⟩
theorem all_append {ps qs : List Prop} (h : AllP ps) (g : AllP qs) : AllP (ps ++ qs) := by
  induction ps with
  | nil => exact g
  | cons p ps ih => exact all_cons h.cons.1 (ih h.cons.2)
end Go.Ab
namespace Go.Ab
def Spec.none : Spec := fun _ _ => Option.none
def Spec.add (K : Spec) (f : FuncId) (s : List Value → Prop × Value) : Spec := fun g args => if g = f then some (s args) else K g args
def Spec3.none : Spec3 := fun _ _ _ => Option.none
def Spec3.add (K : Spec3) (f : FuncId) (s : List Value → Mem → Prop × Value × Mem) : Spec3 := fun g args m => if g = f then some (s args m) else K g args m
section
variable {C : Cfg} {K : Spec}
theorem Spec3OK.none : Spec3OK C Spec3.none := fun f args m P v m' h => by cases h
theorem Spec3OK.add {K : Spec3} {f : FuncId} {s : List Value → Mem → Prop × Value × Mem} (hK : Spec3OK C K) (h : ∀ args m, (s args m).1 → Con C f args m (s args m).2.1 (s args m).2.2) : Spec3OK C (K.add f s) := by
  intro g args m P v m' hs hP
  unfold Spec3.add at hs
  split at hs
  · rename_i e
    subst e
    cases he : s args m with
    | mk P1 w =>
      obtain ⟨v1, m1⟩ := w
      rw [he] at hs
      cases hs
      have := h args m
      rw [he] at this
      exact this hP
  · exact hK g args m P v m' hs hP
theorem SpecOK.none : SpecOK C Spec.none := fun f args P v h => by cases h
theorem SpecOK.add {f : FuncId} {s : List Value → Prop × Value} (hK : SpecOK C K) (h : ∀ args, (s args).1 → Fz C f args (s args).2) : SpecOK C (K.add f s) := by
  intro g args P v hs hP
  unfold Spec.add at hs
  split at hs
  · rename_i e
    subst e
    cases he : s args with
    | mk P1 v1 =>
      rw [he] at hs
      cases hs
      have := h args
      rw [he] at this
      exact this hP
  · exact hK g args P v hs hP
end
def heads : Code → List Item → List (List Item)
  | .seq a b, r => heads a (.code b :: r) ++ heads b r
  | .cond _ a b, r => heads a r ++ heads b r
  | .block id c, r => heads c (.inBlock id :: r)
  | .loop c, r => (.code c :: .inLoop c :: r) :: heads c (.inLoop c :: r)
  | _, _ => []
def atLoop (fn : Func) (i : Nat) : List Item :=
  match fn.body with
  | some c => (heads c []).getD i []
  | none => []
section
variable {C : Cfg} {K : Spec} {K3 : Spec3} {O : List (Nat × FuncId)} {D : List (Tmp × Value)} {fn : Func}
theorem heads_ok : ∀ (c : Code) (r : List Item), codeOk C fn c = true → (∀ i ∈ r, itemOk C fn i = true) → ∀ l ∈ heads c r, ∀ i ∈ l, itemOk C fn i = true
  | .seq a b, r, h, hr, l, hl => by
    simp only [codeOk, Bool.and_eq_true] at h
    simp only [heads, List.mem_append] at hl
    rcases hl with hl | hl
    · refine heads_ok a _ h.1 (fun i hi => ?_) l hl
      rw [List.mem_cons] at hi
      rcases hi with rfl | hi
      · exact h.2
      · exact hr i hi
    · exact heads_ok b r h.2 hr l hl
  | .cond _ a b, r, h, hr, l, hl => by
    simp only [codeOk, Bool.and_eq_true] at h
    simp only [heads, List.mem_append] at hl
    rcases hl with hl | hl
    · exact heads_ok a r h.1 hr l hl
    · exact heads_ok b r h.2 hr l hl
  | .block id c, r, h, hr, l, hl => by
    simp only [heads] at hl
    refine heads_ok c _ h (fun i hi => ?_) l hl
    rw [List.mem_cons] at hi
    rcases hi with rfl | hi
    · rfl
    · exact hr i hi
  | .loop c, r, h, hr, l, hl => by
    have h' : codeOk C fn c = true := h
    simp only [heads, List.mem_cons] at hl
    rcases hl with rfl | hl
    · intro i hi
      simp only [List.mem_cons] at hi
      rcases hi with rfl | rfl | hi
      · exact h'
      · exact h'
      · exact hr i hi
    · refine heads_ok c _ h (fun i hi => ?_) l hl
      rw [List.mem_cons] at hi
      rcases hi with rfl | hi
      · exact h'
      · exact hr i hi
  | .skip, r, _, _, l, hl => by simp [heads] at hl
  | .ret, r, _, _, l, hl => by simp [heads] at hl
  | .exit _, r, _, _, l, hl => by simp [heads] at hl
  | .region _ _ _, r, _, _, l, hl => by simp [heads] at hl
  | .label _, r, _, _, l, hl => by simp [heads] at hl
  | .goto _, r, _, _, l, hl => by simp [heads] at hl
theorem atLoop_ok {c : Code} (hb : fn.body = some c) (h : codeOk C fn c = true) (i : Nat) : ∀ x ∈ atLoop fn i, itemOk C fn x = true := by
  unfold atLoop
  rw [hb]
  simp only
  intro x hx
  rw [List.getD_eq_getElem?_getD] at hx
  cases hg : (heads c [])[i]? with
  | none => rw [hg] at hx; simp at hx
  | some l =>
    rw [hg] at hx
    exact heads_ok c [] h (fun i hi => by cases hi) l (List.mem_of_getElem? hg) x hx
def SimB (π : Nat → Option Nat) (m : Mem) : List Nat → Mem → Prop
  | [], [] => True
  | n :: ns, b0 :: bs => (∃ b, m[n]? = some b ∧ SB inert π b0 b) ∧ SimB π m ns bs
  | _, _ => False
theorem SimB.get {π : Nat → Option Nat} {m : Mem} : ∀ {ns : List Nat} {bs : Mem}, SimB π m ns bs → ns.length = bs.length ∧ ∀ (i : Nat) n b0, ns[i]? = some n → bs[i]? = some b0 → ∃ b, m[n]? = some b ∧ SB inert π b0 b
  | [], [], _ => ⟨rfl, fun i n b0 h => by simp at h⟩
  | n :: ns, b0 :: bs, h => by
    have := h.2.get
    refine ⟨by simp [this.1], fun i n' b' h1 h2 => ?_⟩
    cases i with
    | zero => simp at h1 h2; subst h1 h2; exact h.1
    | succ i => simp at h1 h2; exact this.2 i n' b' h1 h2
  | [], _ :: _, h => h.elim
  | _ :: _, [], h => h.elim
end
abbrev intsV (k : IntKind) (l : List Int) : Value := roS l.length (l.map (.int k))
def intsD (v : Value) : List Int := (cellsS v).map intOf
@[simp] theorem intOf_int (k : IntKind) (n : Int) : intOf (.int k n) = n := rfl
@[simp] theorem boolOf_bool (b : Bool) : boolOf (.bool b) = b := rfl
@[simp] theorem strOf_string (s : ByteArray) : strOf (.string s) = s := rfl
@[simp] theorem lenS_roS (n : Nat) (cs : List Value) : lenS (roS n cs) = n := rfl
@[simp] theorem cellsS_roS (n : Nat) (cs : List Value) : cellsS (roS n cs) = cs := by simp [roS, cellsS]
@[simp] theorem lenS_iface (n : Nat) (x : Value) : lenS (.iface n x) = n := rfl
@[simp] theorem cellsS_iface (n : Nat) (cs : Array Value) : cellsS (.iface n (.agg cs)) = cs.toList := rfl
@[simp] theorem cells_agg (cs : Array Value) : (Value.agg cs).cells = cs := rfl
@[simp] theorem intsD_intsV (k : IntKind) (l : List Int) : intsD (intsV k l) = l := by
  simp only [intsD, intsV, cellsS_roS, List.map_map]
  conv => rhs; rw [← List.map_id l]
  rfl
@[simp] theorem cells_int (k : IntKind) (n : Int) : (Value.int k n).cells = #[Value.int k n] := rfl
@[simp] theorem cells_bool (b : Bool) : (Value.bool b).cells = #[Value.bool b] := rfl
@[simp] theorem cells_iface (n : Nat) (v : Value) : (Value.iface n v).cells = #[Value.iface n v] := rfl
@[simp] theorem intsD_iface (n : Nat) (cs : Array Value) : intsD (.iface n (.agg cs)) = cs.toList.map intOf := rfl
attribute [simp] splice
@[simp] theorem map_intOf (k : IntKind) (l : List Int) : List.map (intOf ∘ Value.int k) l = l := by
  conv => rhs; rw [← List.map_id l]
  rfl
@[simp] theorem lenS_intsV (k : IntKind) (l : List Int) : lenS (intsV k l) = l.length := rfl
@[simp] theorem cellsS_intsV (k : IntKind) (l : List Int) : cellsS (intsV k l) = l.map (.int k) := by simp [intsV]
@[simp] theorem getD_int (k : IntKind) (l : List Int) (i : Nat) : intOf ((l[i]?.map (Value.int k)).getD .nilFunc) = l[i]?.getD 0 := by
  cases l[i]? <;> rfl
@[simp] theorem all_inert_int (k : IntKind) (l : List Int) : (l.map (Value.int k)).all inert = true := by simp [inert]
@[simp] theorem all_fixd_int (k : IntKind) (l : List Int) : (l.map (Value.int k)).all fixd = true := by simp [fixd]
theorem wrap64 {n : Int} (h : -9223372036854775808 ≤ n) (h' : n < 9223372036854775808) : IntKind.i64.wrap n = n := by
  unfold IntKind.wrap
  simp only [IntKind.bits, IntKind.signed, Bool.true_and, decide_eq_true_eq, ge_iff_le]
  by_cases hc : (2 : Int) ^ (64 - 1) ≤ n % 2 ^ 64
  · rw [if_pos hc]; omega
  · rw [if_neg hc]; omega
end Go.Ab
namespace Go.Ab
def iceAll (W : World) : Emb := { loc := fun _ => none, fz := fun g => match W.heap[g]? with
  | some (.cells c _ _) => some c
  | _ => none }
theorem iceAll_rep (B : Nat) (W : World) : Rep B (iceAll W) [] W := by
  refine ⟨?_, ?_, ?_, ?_, ?_, ?_, ?_⟩
  · intro n l b h; cases h
  · intro n n' l l' b b' _ h; cases h
  · intro n l b h; cases h
  · intro n l b h; cases h
  · intro g c h
    have h : (match W.heap[g]? with
      | some (.cells c _ _) => some c
      | _ => none) = some c := h
    split at h
    · rename_i e z hh
      cases h
      exact ⟨_, _, hh⟩
    · cases h
  · intro n l b h; cases h
  · intro n l b h; cases h
theorem iceAll_bare (W : World) : (iceAll W).bare = iceAll W := rfl
theorem iceAll_cell {W : World} {a : Addr} {v : Value} (h : W.cell? a = some v) : a.spot = none ∧ ∃ c, (iceAll W).fz a.block = some c ∧ c[a.off]? = some v := by
  refine ⟨World.cell?_spot h, ?_⟩
  unfold World.cell? at h
  split at h
  · rename_i c e z hc
    split at h
    · cases h
    · refine ⟨c, ?_, h⟩
      show (match W.heap[a.block]? with
        | some (.cells c _ _) => some c
        | _ => none) = some c
      rw [hc]
  · cases h
theorem addr_add2 (a : Addr) (x y : Nat) : (a.add x).add y = a.add (x + y) := by
  unfold Addr.add
  by_cases hx : x = 0
  · subst hx; simp
  · by_cases hy : y = 0
    · subst hy; simp [hx]
    · simp [hx, hy, Nat.add_assoc]
inductive Typed (C : Cfg) : Nat → List Value → Prop where
  | int (t : Nat) (q : IntKind) (n : Int) : (C.ty t).d = .int q → (Lit.int q n).wf = true → Typed C t [.int q n]
  | bool (t : Nat) (b : Bool) : (C.ty t).d = .bool → Typed C t [.bool b]
  | str (t : Nat) (s : ByteArray) : (C.ty t).d = .str → s.size ≤ maxLen → Typed C t [.string s]
  | slice (t e : Nat) (L : List (List Value)) : (C.ty t).d = .slice e → L.length ≤ maxLen → (∀ x ∈ L, Typed C e x) → (∀ x ∈ L, x.length = (C.ty e).size) → Typed C t [roS L.length L.flatten]
  | struct (t : Nat) (fs : List (Nat × Nat)) (cs : List Value) : (C.ty t).d = .struct fs → cs.length = (C.ty t).size → (∀ p ∈ fs, Typed C p.2 ((cs.drop p.1).take (C.ty p.2).size)) → Typed C t cs
def tiles (C : Cfg) : List (Nat × Nat) → Nat → Nat → Bool
  | [], o, n => o == n
  | (off, t) :: fs, o, n => off == o && tiles C fs (o + (C.ty t).size) n
def goodB (C : Cfg) (l : List Nat) : Bool := l.all fun t => match (C.ty t).d with
  | .int _ => true
  | .bool => true
  | .str => true
  | .slice e => l.contains e && (C.ty e).size != 0
  | .struct fs => fs.all (fun p => l.contains p.2) && tiles C fs 0 (C.ty t).size
  | _ => false
section
variable {C : Cfg} (hC : CfgOK C)
include hC
theorem cellsOf_ty {t : Nat} {d : TD} (h : (C.ty t).d = d) (hd : isOther d = false) : C.P.cellsOf t = (C.ty t).size := by
  obtain ⟨i, _, z, h1, _, _, h4, _⟩ := (ty_fits hC h hd).ex
  unfold Program.cellsOf
  rw [h1]
  exact h4
omit hC in
theorem pick_list {α : Type} {p : Nat → α → Prop} : ∀ (n : Nat), (∀ i, i < n → ∃ x, p i x) → ∃ L : List α, L.length = n ∧ ∀ (i : Nat) x, L[i]? = some x → p i x := by
  intro n
  induction n with
  | zero => exact fun _ => ⟨[], rfl, fun i x h => by simp at h⟩
  | succ n ih =>
    intro h
    obtain ⟨L, h1, h2⟩ := ih (fun i hi => h i (by omega))
    obtain ⟨x, hx⟩ := h n (by omega)
    refine ⟨L ++ [x], by simp [h1], fun i y hy => ?_⟩
    rcases Nat.lt_or_ge i L.length with hi | hi
    · rw [List.getElem?_append_left hi] at hy
      exact h2 i y hy
    · rw [List.getElem?_append_right hi] at hy
      have hl := (List.getElem?_eq_some_iff.1 hy).1
      simp at hl
      have : i = n := by omega
      subst this
      rw [h1] at hy
      simp at hy
      subst hy
      exact hx
omit hC in
theorem flatten_get {n : Nat} (hn : 0 < n) : ∀ (L : List (List Value)), (∀ x ∈ L, x.length = n) → ∀ (j : Nat) v, L.flatten[j]? = some v → ∃ x, L[j / n]? = some x ∧ x[j % n]? = some v
  | [], _, j, v, h => by simp at h
  | x :: L, hL, j, v, h => by
    have hx := hL x (List.mem_cons_self ..)
    rw [List.flatten_cons] at h
    rcases Nat.lt_or_ge j n with hj | hj
    · rw [List.getElem?_append_left (by omega)] at h
      refine ⟨x, ?_, ?_⟩
      · rw [Nat.div_eq_of_lt hj]; rfl
      · rw [Nat.mod_eq_of_lt hj]; exact h
    · rw [List.getElem?_append_right (by omega), hx] at h
      obtain ⟨y, h1, h2⟩ := flatten_get hn L (fun z hz => hL z (List.mem_cons_of_mem _ hz)) (j - n) v h
      refine ⟨y, ?_, ?_⟩
      · rw [Nat.div_eq_sub_div hn hj, List.getElem?_cons_succ]; exact h1
      · rw [Nat.mod_eq_sub_mod hj]; exact h2
omit hC in
theorem flatten_length {n : Nat} : ∀ (L : List (List Value)), (∀ x ∈ L, x.length = n) → L.flatten.length = L.length * n
  | [], _ => by simp
  | x :: L, hL => by
    rw [List.flatten_cons, List.length_append, hL x (List.mem_cons_self ..), flatten_length L (fun z hz => hL z (List.mem_cons_of_mem _ hz)), List.length_cons, Nat.add_mul]
    omega
variable {H : Type} {enc : TypeId × Value → H} {W : World} {base : Nat} {spare : Nat → Bool} {held : Bool}
theorem read {l : List Nat} (hg : goodB C l = true) : ∀ (fuel : Nat) (t : Nat) (cs : List Value) (x : DataW H × List MemPlace), t ∈ l → DataW.trod enc C.P W base spare held fuel t cs = some x →
    ∃ cs0, VRL (iceAll W) cs0 cs ∧ Typed C t cs0 ∧ cs0.all flat = true := by
  intro fuel
  induction fuel with
  | zero => intro t cs x _ h; simp [DataW.trod] at h
  | succ fuel ih =>
    intro t cs x ht h
    have hgt := hg
    unfold goodB at hgt
    rw [List.all_eq_true] at hgt
    have hgt := hgt t ht
    split at hgt
    · rename_i q hd
      obtain ⟨n, rfl, _, hw⟩ := DataW.trod_int (under_int hC hd) h
      exact ⟨[.int q n], .cons (.int q n) .nil, .int t q n hd hw, rfl⟩
    · rename_i hd
      obtain ⟨b, rfl, _⟩ := DataW.trod_bool (under_bool hC hd) h
      exact ⟨[.bool b], .cons (.bool b) .nil, .bool t b hd, rfl⟩
    · rename_i hd
      obtain ⟨s, rfl, _, hs⟩ := DataW.trod_string (under_str hC hd) h
      exact ⟨[.string s], .cons (.string s) .nil, .str t s hd hs, rfl⟩
    · rename_i e hd
      simp only [Bool.and_eq_true, bne_iff_ne, ne_eq] at hgt
      have he : e ∈ l := by simpa using hgt.1
      have hoe : isOther (C.ty e).d = false := by
        have hge := hg
        unfold goodB at hge
        rw [List.all_eq_true] at hge
        have := hge e he
        split at this <;> simp_all [isOther]
      have hce := cellsOf_ty hC (t := e) rfl hoe
      have hn : 0 < (C.ty e).size := by omega
      rcases DataW.trod_slice (under_slice hC hd) h with ⟨rfl, _⟩ | ⟨a, len, cap, elems, rest, n, hf, rfl, _, hb, hl, hm, hlen, hel, _, _⟩
      · exact ⟨[roS 0 []], .cons (.ro0 none 0 trivial) .nil, .slice t e [] hd (by simp) (by simp) (by simp), rfl⟩
      · cases hf
        have each : ∀ i, i < len → ∃ x : List Value × List Value, W.cells? base (a.add (i * (C.ty e).size)) (C.ty e).size = some x.1 ∧ VRL (iceAll W) x.2 x.1 ∧ Typed C e x.2 ∧ x.2.all flat = true := by
          intro i hi
          have h1 := hel i hi
          rw [hce] at h1
          have h2 : ∃ y, elems[i]? = some y := ⟨_, List.getElem?_eq_getElem (by omega)⟩
          obtain ⟨y, hy⟩ := h2
          rw [hy, Option.bind_eq_some_iff] at h1
          obtain ⟨cs', h3, h4⟩ := h1
          obtain ⟨cs0, h5, h6, h7⟩ := ih e cs' y he h4
          exact ⟨(cs', cs0), h3, h5, h6, h7⟩
        obtain ⟨M, hM, hp⟩ := pick_list len each
        let L := M.map (·.2)
        have hL : L.length = len := by simp [L, hM]
        have memL : ∀ x ∈ L, ∃ (i : Nat) (y : List Value × List Value), M[i]? = some y ∧ y.2 = x := by
          intro x hx
          simp only [L, List.mem_map] at hx
          obtain ⟨y, hy, rfl⟩ := hx
          obtain ⟨i, hi⟩ := List.getElem?_of_mem hy
          exact ⟨i, y, hi, rfl⟩
        have hsz : ∀ x ∈ L, x.length = (C.ty e).size := by
          intro x hx
          obtain ⟨i, y, hi, rfl⟩ := memL x hx
          obtain ⟨h1, h2, _⟩ := hp i y hi
          rw [h2.1]
          exact (World.cells?_some h1).2.1
        have hty : ∀ x ∈ L, Typed C e x := by
          intro x hx
          obtain ⟨i, y, hi, rfl⟩ := memL x hx
          exact (hp i y hi).2.2.1
        have hfl : L.flatten.all flat = true := by
          rw [List.all_eq_true]
          intro v hv
          rw [List.mem_flatten] at hv
          obtain ⟨x, hx, hv⟩ := hv
          obtain ⟨i, y, hi, rfl⟩ := memL x hx
          have := (hp i y hi).2.2.2
          rw [List.all_eq_true] at this
          exact this v hv
        have cell : ∀ (j : Nat) v, L.flatten[j]? = some v → ∃ v', W.cell? (a.add j) = some v' ∧ VR (iceAll W) v v' := by
          intro j v hv
          obtain ⟨x, h1, h2⟩ := flatten_get hn L hsz j v hv
          simp only [L, List.getElem?_map, Option.map_eq_some_iff] at h1
          obtain ⟨y, h3, rfl⟩ := h1
          obtain ⟨h4, h5, _⟩ := hp _ y h3
          obtain ⟨v', h6, h7⟩ := h5.get h2
          refine ⟨v', ?_, h7⟩
          have h8 := (World.cells?_some h4).2.2 (j % (C.ty e).size) (Nat.mod_lt _ hn)
          rw [h6] at h8
          rw [← h8]
          congr 1
          have : j / (C.ty e).size * (C.ty e).size + j % (C.ty e).size = j := by
            have := Nat.div_add_mod j (C.ty e).size
            rw [Nat.mul_comm] at this
            exact this
          rw [addr_add2, this]
        have fin : VR (iceAll W) (roS L.length L.flatten) (.slice (some a) len cap) := by
          rw [hL]
          rcases Nat.eq_zero_or_pos len with h0 | h0
          · have : L = [] := List.eq_nil_of_length_eq_zero (by omega)
            rw [this, h0]
            exact .ro0 _ _ trivial
          · have hfl0 : 0 < L.flatten.length := by
              rw [flatten_length L hsz, hL]
              exact Nat.mul_pos h0 hn
            obtain ⟨v', h1, _⟩ := cell 0 _ (List.getElem?_eq_getElem hfl0)
            obtain ⟨hsp0, _⟩ := iceAll_cell h1
            have ha : ∃ g o, a = ⟨g, o, none⟩ := by
              have hsp0 : a.spot = none := hsp0
              cases a with
              | mk bl of sp => simp only at hsp0; subst hsp0; exact ⟨bl, of, rfl⟩
            obtain ⟨g, o, rfl⟩ := ha
            have hadd : ∀ j, (⟨g, o, none⟩ : Addr).add j = ⟨g, o + j, none⟩ := by
              intro j
              unfold Addr.add
              split
              · rename_i hj; simp_all
              · rfl
            have hc : ∃ c, (iceAll W).fz g = some c := by
              obtain ⟨_, c, h2, _⟩ := iceAll_cell h1
              rw [hadd] at h2
              exact ⟨c, h2⟩
            obtain ⟨c, hc⟩ := hc
            have at' : ∀ (j : Nat) v, L.flatten[j]? = some v → ∃ v', c[o + j]? = some v' ∧ VR (iceAll W) v v' := by
              intro j v hv
              obtain ⟨v', h1, h2⟩ := cell j v hv
              obtain ⟨_, c', h3, h4⟩ := iceAll_cell h1
              rw [hadd] at h3 h4
              rw [hc] at h3
              cases h3
              exact ⟨v', h4, h2⟩
            refine .ro len L.flatten.toArray g o cap c hc (.inr ?_) hl ?_ (by simpa using hfl)
            · obtain ⟨v', h2, _⟩ := at' (L.flatten.length - 1) _ (List.getElem?_eq_getElem (by omega))
              have := (Array.getElem?_eq_some_iff.1 h2).1
              rw [List.size_toArray]
              omega
            · intro i v v' h1 h2
              obtain ⟨u, h3, h4⟩ := at' i v (by simpa using h1)
              rw [h2] at h3
              cases h3
              rw [iceAll_bare]
              exact h4
        exact ⟨[roS L.length L.flatten], .cons fin .nil, .slice t e L hd (by omega) hty hsz, rfl⟩
    · rename_i fs hd
      simp only [Bool.and_eq_true, List.all_eq_true] at hgt
      obtain ⟨gs, hu, hfs⟩ := under_struct hC hd
      obtain ⟨xs, n, hf, _, hlen, hxs, hpart⟩ := DataW.trod_struct hu h
      cases hf
      have hct := cellsOf_ty hC hd rfl
      rw [hct] at hlen
      have parts : ∀ p ∈ fs, ∃ cs0, VRL (iceAll W) cs0 ((cs.drop p.1).take (C.ty p.2).size) ∧ Typed C p.2 cs0 ∧ cs0.all flat = true := by
        intro p hp
        rw [← hfs, List.mem_map] at hp
        obtain ⟨f, hf, rfl⟩ := hp
        obtain ⟨i, hi⟩ := List.getElem?_of_mem hf
        have hi : gs[i]? = some f := by simpa using hi
        have h1 := hpart i f hi
        have h2 : ∃ y, xs[i]? = some y := ⟨_, List.getElem?_eq_getElem (by have := (Array.getElem?_eq_some_iff.1 hi).1; omega)⟩
        obtain ⟨y, hy⟩ := h2
        rw [hy] at h1
        have hl' : f.type ∈ l := by
          have := hgt.1 (f.offset, f.type) (by rw [← hfs, List.mem_map]; exact ⟨f, hf, rfl⟩)
          simpa using this
        have hoe : isOther (C.ty f.type).d = false := by
          have hge := hg
          unfold goodB at hge
          rw [List.all_eq_true] at hge
          have := hge _ hl'
          split at this <;> simp_all [isOther]
        rw [cellsOf_ty hC (t := f.type) rfl hoe] at h1
        exact ih _ _ y hl' h1
      have glue : ∀ (fs' : List (Nat × Nat)) (o : Nat), (∀ p ∈ fs', p ∈ fs) → tiles C fs' o (C.ty t).size = true → ∃ cs0, VRL (iceAll W) cs0 (cs.drop o) ∧ cs0.all flat = true ∧ ∀ p ∈ fs', o ≤ p.1 ∧ Typed C p.2 ((cs0.drop (p.1 - o)).take (C.ty p.2).size) := by
        intro fs'
        induction fs' with
        | nil =>
          intro o _ ht'
          simp only [tiles, beq_iff_eq] at ht'
          refine ⟨[], ?_, rfl, by simp⟩
          rw [ht', ← hlen, List.drop_length]
          exact .nil
        | cons p fs' ih' =>
          intro o hsub ht'
          obtain ⟨off, t'⟩ := p
          simp only [tiles, Bool.and_eq_true, beq_iff_eq] at ht'
          obtain ⟨rfl, ht'⟩ := ht'
          obtain ⟨c1, r1, ty1, f1⟩ := parts (off, t') (hsub _ (List.mem_cons_self ..))
          obtain ⟨c2, r2, f2, p2⟩ := ih' (off + (C.ty t').size) (fun q hq => hsub q (List.mem_cons_of_mem _ hq)) ht'
          have hle : off + (C.ty t').size ≤ (C.ty t).size := by
            clear p2 r2 f2 ih' parts hsub
            revert ht'
            generalize off + (C.ty t').size = o'
            clear ty1 r1 f1
            induction fs' generalizing o' with
            | nil => intro h; simp only [tiles, beq_iff_eq] at h; omega
            | cons q fs'' ih'' =>
              intro h
              obtain ⟨oq, tq⟩ := q
              simp only [tiles, Bool.and_eq_true, beq_iff_eq] at h
              have := ih'' _ h.2
              omega
          have hc1 : c1.length = (C.ty t').size := by
            rw [r1.1]
            simp only [List.length_take, List.length_drop]
            omega
          refine ⟨c1 ++ c2, ?_, by rw [List.all_append, f1, f2]; rfl, ?_⟩
          · have : cs.drop off = (cs.drop off).take (C.ty t').size ++ cs.drop (off + (C.ty t').size) := by
              rw [← List.drop_drop, List.take_append_drop]
            rw [this]
            exact r1.append r2
          · intro q hq
            rw [List.mem_cons] at hq
            rcases hq with rfl | hq
            · refine ⟨Nat.le_refl _, ?_⟩
              rw [Nat.sub_self, List.drop_zero, List.take_left' hc1]
              exact ty1
            · obtain ⟨q1, q2⟩ := p2 q hq
              refine ⟨by omega, ?_⟩
              have : (c1 ++ c2).drop (q.1 - off) = c2.drop (q.1 - (off + (C.ty t').size)) := by
                rw [List.drop_append, List.drop_eq_nil_of_le (by omega), List.nil_append]
                congr 1
                omega
              rw [this]
              exact q2
      obtain ⟨cs0, g1, g2, g3⟩ := glue fs 0 (fun p hp => hp) hgt.2
      rw [List.drop_zero] at g1
      refine ⟨cs0, g1, .struct t fs cs0 hd (by rw [g1.1]; exact hlen) (fun p hp => ?_), g2⟩
      have := (g3 p hp).2
      rw [Nat.sub_zero] at this
      exact this
    · cases hgt
def TypedV (C : Cfg) (t : Nat) (a : Value) : Prop := match (C.ty t).d with
  | .struct _ => ∃ cs, a = .agg cs ∧ Typed C t cs.toList
  | _ => Typed C t [a]
theorem read_arg {l : List Nat} (hg : goodB C l = true) {t : Nat} (ht : t ∈ l) {r : Reach} {b0 : Nat} {v : Value} {d : DataW H} {ps : List MemPlace} (hval : Value.okWide C.P W r b0 t v) (h : DataW.Trod enc C.P W base spare held t v d ps) :
    ∃ a, VR (iceAll W) a v ∧ TypedV C t a := by
  obtain ⟨fuel, hf⟩ := h
  obtain ⟨cs0, h1, h2, h3⟩ := read hC hg fuel t _ _ ht hf
  have hgt := hg
  unfold goodB at hgt
  rw [List.all_eq_true] at hgt
  have hgt := hgt t ht
  have flat1 : ∀ {u : Value}, v = u → u.cells.toList = [u] → ∃ a, VR (iceAll W) a v ∧ Typed C t [a] := by
    intro u e hu
    subst e
    rw [hu] at h1
    match cs0, h1, h2 with
    | [a], h1, h2 => exact ⟨a, h1.head, h2⟩
    | [], h1, _ => exact absurd h1.1 (by simp)
    | _ :: _ :: _, h1, _ => exact absurd h1.1 (by simp)
  split at hgt
  · rename_i q hd
    obtain ⟨n, rfl⟩ := WideShapes.okWide_int (under_int hC hd) hval
    simpa only [TypedV, hd] using flat1 rfl rfl
  · rename_i hd
    obtain ⟨n, rfl⟩ := WideShapes.okWide_bool (under_bool hC hd) hval
    simpa only [TypedV, hd] using flat1 rfl rfl
  · rename_i hd
    obtain ⟨n, rfl⟩ := WideShapes.okWide_string (under_str hC hd) hval
    simpa only [TypedV, hd] using flat1 rfl rfl
  · rename_i e hd
    obtain ⟨n, m, k, rfl⟩ := WideShapes.okWide_slice (under_slice hC hd) hval
    simpa only [TypedV, hd] using flat1 rfl rfl
  · rename_i fs hd
    obtain ⟨gs, hu, _⟩ := under_struct hC hd
    have : ∃ cs, v = .agg cs := by
      simp only [Value.okWide, hu] at hval
      obtain ⟨cs, e, _⟩ := hval
      exact ⟨cs, e⟩
    obtain ⟨cs, rfl⟩ := this
    refine ⟨.agg cs0.toArray, ?_, ?_⟩
    · have h1 : VRL (iceAll W) cs0 cs.toList := h1
      have := h1.agg
      simpa using this
    · simp only [TypedV, hd]
      exact ⟨cs0.toArray, rfl, by simpa using h2⟩
  · cases hgt
end
end Go.Ab
namespace Go.Ab
open Go.RowKit
def TypedAll (C : Cfg) : List Nat → List Value → Prop
  | [], [] => True
  | t :: ts, a :: as => TypedV C t a ∧ TypedAll C ts as
  | _, _ => False
section
variable {C : Cfg} (hC : CfgOK C)
include hC
variable {H : Type} {enc : TypeId × Value → H} {W : World} {base : Nat} {spare : Nat → Bool} {held : Bool}
theorem read_args {l : List Nat} (hg : goodB C l = true) {r : Reach} {b0 : Nat} : ∀ {ts : List Nat} {vs : List Value} {ds : List (DataW H)} {ps : List MemPlace}, (∀ t ∈ ts, t ∈ l) → (∀ (j : Nat) t v, ts[j]? = some t → vs[j]? = some v → Value.okWide C.P W r b0 t v) →
    DataW.TrodAll enc C.P W base spare held ts vs ds ps → ∃ as, VRL (iceAll W) as vs ∧ TypedAll C ts as
  | [], vs, ds, ps, _, _, h => by
    obtain ⟨rfl, _, _⟩ := ChangeShapes.trodAll_nil h
    exact ⟨[], .nil, trivial⟩
  | t :: ts, vs, ds, ps, hl, hval, h => by
    obtain ⟨v, vs', d, ds', p, q, rfl, rfl, rfl, h1, h2⟩ := ChangeShapes.trodAll_cons h
    obtain ⟨a, r1, t1⟩ := read_arg hC hg (hl t (List.mem_cons_self ..)) (hval 0 t v rfl rfl) h1
    obtain ⟨as, r2, t2⟩ := read_args hg (fun x hx => hl x (List.mem_cons_of_mem _ hx)) (fun j t v h1 h2 => hval (j + 1) t v h1 h2) h2
    exact ⟨a :: as, .cons r1 r2, t1, t2⟩
omit hC in
theorem frz_bool {m : Mem} {v0 : Value} {b : Bool} {ns : List Nat} (h : frz 64 m v0 = some (.bool b, ns)) : v0 = .bool b := by
  unfold frz at h
  split at h <;> first | (cases h; rfl) | (cases h; done) | skip
  all_goals (repeat' (split at h)) <;> first | (cases h; done) | (simp [roS, roP] at h; done) | skip
theorem law_calls (h0 : C.G = 0) {f : FuncId} {ts : List Nat} (hF : ∀ as, TypedAll C ts as → Fz C f as (.bool true)) {l : List Nat} (hg : goodB C l = true) (hts : ts.all l.contains = true) {r : Reach} {b0 : Nat} {args : Array Value} {ds : List (DataW H)} {ps : List MemPlace}
    (hval : ∀ (j : Nat) t v, ts[j]? = some t → args.toList[j]? = some v → Value.okWide C.P W r b0 t v) (h : DataW.TrodAll enc C.P W base spare held ts args.toList ds ps) :
    Calls C.P f args W fun e W' => e = .returned (.bool true) ∧ Below W.heap.size W W' := by
  rw [List.all_eq_true] at hts
  obtain ⟨as, r, ty⟩ := read_args hC hg (fun t ht => by simpa using hts t ht) hval h
  obtain ⟨v0, m2, ns, hcon, hfr⟩ := hF as ty
  have hv0 := frz_bool hfr
  subst hv0
  refine (hcon.2.2 W.heap.size (iceAll W) W args (iceAll_rep _ W) (fun g hg => by omega) (Nat.le_refl _) r (fun n _ _ => rfl)).mono ?_
  rintro e W' ⟨v', ι', rfl, A, rv⟩
  cases rv
  refine ⟨rfl, A.os, A.tape, A.output, A.size, fun k hk => A.frame k hk fun n l b _ hb => ?_⟩
  simp at hb
end
section
variable {H : Type} {enc : TypeId × Value → H} {P : Program} {W W' : World}
theorem trodAll_below (hl : laidOutB P = true) (hb : Below W.heap.size W W') : ∀ {ts : List TypeId} {vs : List Value} {ds : List (DataW H)} {ps : List MemPlace}, ts.all (fun t => P.readableRec t && decide (t < P.types.size)) = true → DataW.TrodAll enc P W 0 (fun _ => true) true ts vs ds ps →
    DataW.TrodAll enc P W' 0 (fun b => decide (b < W.heap.size)) true ts vs ds ps
  | [], vs, ds, ps, _, h => by
    obtain ⟨rfl, rfl, rfl⟩ := ChangeShapes.trodAll_nil h
    rfl
  | t :: ts, vs, ds, ps, ht, h => by
    obtain ⟨v, vs', d, ds', p, q, rfl, rfl, rfl, h1, h2⟩ := ChangeShapes.trodAll_cons h
    simp only [List.all_cons, Bool.and_eq_true, decide_eq_true_eq] at ht
    refine ⟨p, q, ?_, trodAll_below hl hb ht.2 h2, rfl⟩
    exact Below.trod hl ht.1.1 ht.1.2 h1 hb (by
      obtain ⟨m, hm⟩ := h1
      exact DataW.trod_lt m _ _ _ hm)
end
end Go.Ab
namespace Go.Ab
def cellV (v : Value) (i : Nat) : Value :=
  match v with
  | .agg cs => cs.toList.getD i .nilFunc
  | .iface _ (.tuple cs) => cs.toList.getD i .nilFunc
  | _ => .nilFunc
abbrev bssV (r : List (List Int)) : Value := roS r.length (r.map (intsV .u8))
def bssD (v : Value) : List (List Int) := (cellsS v).map intsD
@[simp] theorem map_intsD (k : IntKind) (r : List (List Int)) : List.map (intsD ∘ intsV k) r = r := by
  conv => rhs; rw [← List.map_id r]
  congr 1
  funext x
  simp
@[simp] theorem bssD_bssV (r : List (List Int)) : bssD (bssV r) = r := by simp [bssD, bssV]
@[simp] theorem cellsS_bssV (r : List (List Int)) : cellsS (bssV r) = r.map (intsV .u8) := by simp [bssV]
@[simp] theorem lenS_bssV (r : List (List Int)) : lenS (bssV r) = r.length := rfl
@[simp] theorem all_fixd_ints (k : IntKind) (r : List (List Int)) : (r.map (intsV k)).all fixd = true := by simp [fixd, intsV, roS]
@[simp] theorem all_inert_ints (k : IntKind) (r : List (List Int)) : (r.map (intsV k)).all inert = true := by simp [inert, intsV, roS]
structure LineT where
  r : List (List Int)
  e : List Int
  lit : Bool
  br : Int
def LineT.cells (l : LineT) : List Value := [bssV l.r, intsV .u8 l.e, .bool l.lit, .int .i64 l.br]
abbrev lineV (l : LineT) : Value := .agg #[bssV l.r, intsV .u8 l.e, .bool l.lit, .int .i64 l.br]
abbrev lineP (l : LineT) : Value := roP [bssV l.r, intsV .u8 l.e, .bool l.lit, .int .i64 l.br]
def lineD (v : Value) : LineT := ⟨bssD (cellV v 0), intsD (cellV v 1), boolOf (cellV v 2), intOf (cellV v 3)⟩
@[simp] theorem line_eta (l : LineT) : (⟨l.r, l.e, l.lit, l.br⟩ : LineT) = l := rfl
@[simp] theorem lineD_lineV (l : LineT) : lineD (lineV l) = l := by simp [lineD, lineV, cellV]
@[simp] theorem lineD_lineP (l : LineT) : lineD (lineP l) = l := by simp [lineD, lineP, roP, cellV]
@[simp] theorem lineD_agg (a b c d : Value) : lineD (.agg #[a, b, c, d]) = ⟨bssD a, intsD b, boolOf c, intOf d⟩ := rfl
@[simp] theorem lineD_tuple (n : Nat) (a b c d : Value) : lineD (.iface n (.tuple #[a, b, c, d])) = ⟨bssD a, intsD b, boolOf c, intOf d⟩ := rfl
end Go.Ab
namespace Go.Ab
end Go.Ab
namespace Go.Ab
end Go.Ab
namespace Go.Ab
section
variable {C : Cfg}
theorem typed_int {t : Nat} {q : IntKind} {a : Value} (h : Typed C t [a]) (ht : (C.ty t).d = .int q) : ∃ n, a = .int q n ∧ (Lit.int q n).wf = true := by
  generalize hx : [a] = cs at h
  cases h with
  | int _ q' n hd hw => rw [ht] at hd; cases hd; cases hx; exact ⟨n, rfl, hw⟩
  | bool _ b hd => rw [ht] at hd; cases hd
  | str _ s hd => rw [ht] at hd; cases hd
  | slice _ e L hd => rw [ht] at hd; cases hd
  | struct _ fs _ hd => rw [ht] at hd; cases hd
theorem typed_bool {t : Nat} {a : Value} (h : Typed C t [a]) (ht : (C.ty t).d = .bool) : ∃ b, a = .bool b := by
  generalize hx : [a] = cs at h
  cases h with
  | int _ q' n hd hw => rw [ht] at hd; cases hd
  | bool _ b hd => cases hx; exact ⟨b, rfl⟩
  | str _ s hd => rw [ht] at hd; cases hd
  | slice _ e L hd => rw [ht] at hd; cases hd
  | struct _ fs _ hd => rw [ht] at hd; cases hd
theorem typed_slice {t e : Nat} {a : Value} (h : Typed C t [a]) (ht : (C.ty t).d = .slice e) : ∃ L : List (List Value), a = roS L.length L.flatten ∧ L.length ≤ maxLen ∧ (∀ x ∈ L, Typed C e x) ∧ ∀ x ∈ L, x.length = (C.ty e).size := by
  generalize hx : [a] = cs at h
  cases h with
  | int _ q' n hd hw => rw [ht] at hd; cases hd
  | bool _ b hd => rw [ht] at hd; cases hd
  | str _ s hd => rw [ht] at hd; cases hd
  | slice _ e' L hd h1 h2 h3 => rw [ht] at hd; cases hd; cases hx; exact ⟨L, rfl, h1, h2, h3⟩
  | struct _ fs _ hd => rw [ht] at hd; cases hd
theorem typed_struct {t : Nat} {fs : List (Nat × Nat)} {cs : List Value} (h : Typed C t cs) (ht : (C.ty t).d = .struct fs) : cs.length = (C.ty t).size ∧ ∀ p ∈ fs, Typed C p.2 ((cs.drop p.1).take (C.ty p.2).size) := by
  cases h with
  | int _ q' n hd hw => rw [ht] at hd; cases hd
  | bool _ b hd => rw [ht] at hd; cases hd
  | str _ s hd => rw [ht] at hd; cases hd
  | slice _ e L hd => rw [ht] at hd; cases hd
  | struct _ fs' _ hd h1 h2 => rw [ht] at hd; cases hd; exact ⟨h1, h2⟩
def wfI (k : IntKind) (n : Int) : Prop := (Lit.int k n).wf = true
end
end Go.Ab
namespace Go.Ab
def b8 (n : Int) : UInt8 := UInt8.ofNat n.toNat
def bstr (d : List Int) : ByteArray := ⟨(d.map b8).toArray⟩
theorem bytesOf_u8 : ∀ (d : List Int), bytesOf (d.map (Value.int .u8)) = some (d.map b8)
  | [] => rfl
  | n :: d => by simp only [List.map_cons, bytesOf, bytesOf_u8 d]; rfl
end Go.Ab
namespace Go.Ab
end Go.Ab
namespace Go.Ab
end Go.Ab
namespace Go.Ab
theorem run_part_int {P : Program} {w : World} {e : TypeId} {k : IntKind} (hu : P.underlying e = some (.int k)) {xs : Array Value} {off : Nat} {v : Value} (hx : xs[off]? = some v) : (_root_.Go.part e xs off).run P w = .ok v w := by
  simp [_root_.Go.part, isAgg, run_underlying hu, hx]
theorem eqF_sound {C : Cfg} (hty : ∀ t, isOther (C.ty t).d = false → TyFits C.P t (C.ty t)) {w : World} {d : Nat} : ∀ (gs : List Field) (xs ys : Array Value) (b : Bool), (∀ f ∈ gs, f.name ≠ "_") → eqF C (gs.map fun f => (f.offset, f.type)) xs ys = some b → (Op.eqFields (d + 1) xs ys gs).run C.P w = .ok b w
  | [], xs, ys, b, _, h => by
    simp only [List.map_nil, eqF] at h
    cases h
    simp [Op.eqFields]
  | f :: gs, xs, ys, b, hn, h => by
    simp only [List.map_cons, eqF] at h
    split at h
    · rename_i q k x k' y hd hx hy
      split at h
      · rename_i hk
        subst hk
        split at h
        · rename_i r hr
          cases h
          obtain ⟨i, dd, z, h1, h2, h3, _⟩ := (hty f.type (by rw [hd]; rfl)).ex
          rw [hd] at h3
          cases dd <;> simp [TD.of] at h3
          subst h3
          have ih := eqF_sound hty (w := w) (d := d) gs xs ys r (fun g hg => hn g (List.mem_cons_of_mem _ hg)) hr
          simp only [Op.eqFields, if_pos (hn f (List.mem_cons_self ..)), Sem.run_bind, run_part_int h2 hx, run_part_int h2 hy, Result.andThen_ok, run_equalIn_int w d f.type _ _ x y h2, Sem.run_ite, ih]
          cases (x == y) <;> simp
        · cases h
      · cases h
    · cases h
def eqB (P : Program) (t : Nat) : Bool := !P.eqGuardType P.depth t && !P.stoodInHeld t && (P.fieldsOf t).toList.all (fun f => f.name != "_") && (match P.underlying t with
  | some (.struct _) => true
  | _ => false)
theorem eqs_ok {C : Cfg} (hty : ∀ t, isOther (C.ty t).d = false → TyFits C.P t (C.ty t)) (h : C.eqs.all (eqB C.P) = true) : ∀ t fs, t ∈ C.eqs → (C.ty t).d = .struct fs → ∀ xs ys b w, eqF C fs xs ys = some b →
    (∀ op x y, (eqGuard op t x y (.agg xs) (.agg ys)).run C.P w = .ok () w) ∧ (Op.equal t (.agg xs) (.agg ys)).run C.P w = .ok b w := by
  intro t fs ht hd xs ys b w hb
  rw [List.all_eq_true] at h
  have ht := h t ht
  unfold eqB at ht
  simp only [Bool.and_eq_true, Bool.not_eq_true', List.all_eq_true, bne_iff_ne, ne_eq] at ht
  obtain ⟨⟨⟨h1, h2⟩, h3⟩, h4⟩ := ht
  refine ⟨fun op x y => run_eqGuard_agg w op t x y xs ys h1, ?_⟩
  obtain ⟨i, dd, z, e1, e2, e3, _⟩ := (hty t (by rw [hd]; rfl)).ex
  rw [hd] at e3
  cases dd <;> simp [TD.of] at e3
  rename_i gs
  have hf : C.P.fieldsOf t = gs := by unfold Program.fieldsOf; rw [e2]
  have hu : C.P.underlying t = some (.struct (C.P.fieldsOf t)) := by rw [hf]; exact e2
  show (Op.equalIn (9999 + 1) t (.agg xs) (.agg ys)).run C.P w = .ok b w
  rw [run_equalIn_agg w 9999 t xs ys hu h2]
  rw [hf] at h3 ⊢
  refine eqF_sound hty (d := 9998) gs.toList xs ys b (fun f hfm => h3 f hfm) ?_
  rw [← hb, ← e3]
end Go.Ab
