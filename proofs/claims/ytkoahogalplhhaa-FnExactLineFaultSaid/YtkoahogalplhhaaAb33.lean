/- Part of an own evaluator of Go code on numbered blocks, and of the proof that the machine does what it says; each theorem carries its own conditions. -/
import Derived.Test.YtkoahogalplhhaaAb32
set_option linter.unusedVariables false
set_option linter.unusedSimpArgs false
namespace Go.Ab

/-! ## Tables of contracts, heads of loops, lists of numbers -/

def Spec.none : Spec := fun _ _ => Option.none
def Spec.add (K : Spec) (f : FuncId) (s : List Value → Prop × Value) : Spec := fun g args => if g = f then some (s args) else K g args

section
variable {C : Cfg} {K : Spec}
theorem SpecOK.none : SpecOK C Spec.none := fun f args P v h => by cases h
theorem SpecOK.add {f : FuncId} {s : List Value → Prop × Value} (hK : SpecOK C K) (h : ∀ args, (s args).1 → Fz C f args (s args).2) : SpecOK C (K.add f s) := by
  intro g args P v hs hP
  unfold Spec.add at hs
  split at hs
  · rename_i e
    subst e
    cases he : s args with
    | mk P1 v1 =>
      rw [he] at hs
      cases hs
      have := h args
      rw [he] at this
      exact this hP
  · exact hK g args P v hs hP
end

/-- The arguments are of the contract's form. -/
def Hit {X : Type} (enc : X → List Value) (dec : List Value → X) (pre : X → Prop) (args : List Value) : Prop := args = enc (dec args) ∧ pre (dec args)

theorem hit_intro {X : Type} {enc : X → List Value} {dec : List Value → X} {pre : X → Prop} {args : List Value} (h : args = enc (dec args)) (g : pre (dec args)) : Hit enc dec pre args := ⟨h, g⟩
theorem hit_of {X : Type} {enc : X → List Value} {dec : List Value → X} {pre : X → Prop} {args : List Value} (x : X) (h : args = enc x) (hd : dec (enc x) = x) (g : pre x) : Hit enc dec pre args := by
  subst h
  exact ⟨by rw [hd], by rw [hd]; exact g⟩

/-- A contract by what the arguments stand for. -/
def fam {X : Type} (enc : X → List Value) (dec : List Value → X) (pre : X → Prop) (val : X → Value) : List Value → Prop × Value := fun args => (Hit enc dec pre args, val (dec args))

theorem fam_ok {C : Cfg} {f : FuncId} {X : Type} {enc : X → List Value} {dec : List Value → X} {pre : X → Prop} {val : X → Value} (h : ∀ x, pre x → Fz C f (enc x) (val x)) : ∀ args, (fam enc dec pre val args).1 → Fz C f args (fam enc dec pre val args).2 := by
  intro args hp
  obtain ⟨h1, h2⟩ : args = enc (dec args) ∧ pre (dec args) := hp
  have := h (dec args) h2
  rw [← h1] at this
  exact this

/-- What is to be done at the head of each loop. -/
def heads : Code → List Item → List (List Item)
  | .seq a b, r => heads a (.code b :: r) ++ heads b r
  | .cond _ a b, r => heads a r ++ heads b r
  | .block id c, r => heads c (.inBlock id :: r)
  | .loop c, r => (.code c :: .inLoop c :: r) :: heads c (.inLoop c :: r)
  | _, _ => []

def atLoop (fn : Func) (i : Nat) : List Item :=
  match fn.body with
  | some c => (heads c []).getD i []
  | none => []

section
variable {C : Cfg} {K : Spec} {L : List Inst} {D : List (Tmp × Value)} {fn : Func}

theorem heads_ok : ∀ (c : Code) (r : List Item), codeOk C fn c = true → (∀ i ∈ r, itemOk C fn i = true) → ∀ l ∈ heads c r, ∀ i ∈ l, itemOk C fn i = true
  | .seq a b, r, h, hr, l, hl => by
    simp only [codeOk, Bool.and_eq_true] at h
    simp only [heads, List.mem_append] at hl
    rcases hl with hl | hl
    · refine heads_ok a _ h.1 (fun i hi => ?_) l hl
      rw [List.mem_cons] at hi
      rcases hi with rfl | hi
      · exact h.2
      · exact hr i hi
    · exact heads_ok b r h.2 hr l hl
  | .cond _ a b, r, h, hr, l, hl => by
    simp only [codeOk, Bool.and_eq_true] at h
    simp only [heads, List.mem_append] at hl
    rcases hl with hl | hl
    · exact heads_ok a r h.1 hr l hl
    · exact heads_ok b r h.2 hr l hl
  | .block id c, r, h, hr, l, hl => by
    simp only [heads] at hl
    refine heads_ok c _ h (fun i hi => ?_) l hl
    rw [List.mem_cons] at hi
    rcases hi with rfl | hi
    · rfl
    · exact hr i hi
  | .loop c, r, h, hr, l, hl => by
    have h' : codeOk C fn c = true := h
    simp only [heads, List.mem_cons] at hl
    rcases hl with rfl | hl
    · intro i hi
      simp only [List.mem_cons] at hi
      rcases hi with rfl | rfl | hi
      · exact h'
      · exact h'
      · exact hr i hi
    · refine heads_ok c _ h (fun i hi => ?_) l hl
      rw [List.mem_cons] at hi
      rcases hi with rfl | hi
      · exact h'
      · exact hr i hi
  | .skip, r, _, _, l, hl => by simp [heads] at hl
  | .ret, r, _, _, l, hl => by simp [heads] at hl
  | .exit _, r, _, _, l, hl => by simp [heads] at hl
  | .region _ _ _, r, _, _, l, hl => by simp [heads] at hl
  | .label _, r, _, _, l, hl => by simp [heads] at hl
  | .goto _, r, _, _, l, hl => by simp [heads] at hl

theorem atLoop_ok {c : Code} (hb : fn.body = some c) (h : codeOk C fn c = true) (i : Nat) : ∀ x ∈ atLoop fn i, itemOk C fn x = true := by
  unfold atLoop
  rw [hb]
  simp only
  intro x hx
  rw [List.getD_eq_getElem?_getD] at hx
  cases hg : (heads c [])[i]? with
  | none => rw [hg] at hx; simp at hx
  | some l =>
    rw [hg] at hx
    exact heads_ok c [] h (fun i hi => by cases hi) l (List.mem_of_getElem? hg) x hx

/-- A round of a loop, by evaluation. -/
theorem RunF.of_sRun (hC : CfgOK C) (h0 : C.G = 0) (hK : SpecOK C K) (hL : ∀ i ∈ L, Con C i.f i.args i.m i.v i.m') {c : Code} (hb : fn.body = some c) (hok : codeOk C fn c = true) {i : Nat} {T : Tm} {m : Mem} {P : Option Prop} {v v' : Value} {H H' : List Value} (k : Nat)
    (h : sRun C K L D fn k (atLoop fn i) T m H = some (P, v, H')) (hp : Holds P) (he : v = v') : RunF C fn (atLoop fn i) T m v' := by
  subst he
  exact sRun_sound hC h0 hK hL _ _ _ _ _ _ _ _ h (atLoop_ok hb hok i) hp

/-! The needed temporaries. -/
theorem simT_nil {π : Nat → Option Nat} {T : Tm} : SimT inert π T [] := trivial
theorem simT_cons {π : Nat → Option Nat} {T T0 : Tm} {t : Tmp} {v v0 v1 : Value} (h : T.lookup t = some v) (hr : renV 16 inert π v0 = some v1) (e : v = v1) (r : SimT inert π T T0) : SimT inert π T ((t, v0) :: T0) :=
  ⟨⟨v1, by rw [h, e], renV_sound hr⟩, r⟩

theorem simM_nil {m : Mem} : SimM inert (fun _ => none) [] m := by
  refine ⟨fun a b c h => ?_, fun n n' h => ?_, fun n n' b0 h => ?_⟩
  · cases h
  · cases h
  · simp at h

theorem RunF.norm0 (h0 : C.G = 0) {todo : List Item} {T T0 : Tm} {m : Mem} {v : Value} (hT : SimT inert (fun _ => none) T T0) (h : RunF C fn todo T0 [] v) : RunF C fn todo T m v :=
  h.norm h0 _ hT simM_nil

/-- The blocks, under their names. -/
def SimB (π : Nat → Option Nat) (m : Mem) : List Nat → Mem → Prop
  | [], [] => True
  | n :: ns, b0 :: bs => (∃ b, m[n]? = some b ∧ SB inert π b0 b) ∧ SimB π m ns bs
  | _, _ => False

theorem SimB.get {π : Nat → Option Nat} {m : Mem} : ∀ {ns : List Nat} {bs : Mem}, SimB π m ns bs → ns.length = bs.length ∧ ∀ (i : Nat) n b0, ns[i]? = some n → bs[i]? = some b0 → ∃ b, m[n]? = some b ∧ SB inert π b0 b
  | [], [], _ => ⟨rfl, fun i n b0 h => by simp at h⟩
  | n :: ns, b0 :: bs, h => by
    have := h.2.get
    refine ⟨by simp [this.1], fun i n' b' h1 h2 => ?_⟩
    cases i with
    | zero => simp at h1 h2; subst h1 h2; exact h.1
    | succ i => simp at h1 h2; exact this.2 i n' b' h1 h2
  | [], _ :: _, h => h.elim
  | _ :: _, [], h => h.elim

theorem simB_nil {π : Nat → Option Nat} {m : Mem} : SimB π m [] [] := trivial
/-- A block whose cells have no names. -/
theorem simB_leaf {π : Nat → Option Nat} {m : Mem} {n : Nat} {ns : List Nat} {b b0 : Blk} {bs : Mem} (h : m[n]? = some b) (e1 : b.es = b0.es) (e2 : b.own = b0.own) (e3 : b.live = b0.live) (e4 : b.cells = b0.cells) (e5 : b0.cells.all inert = true) (r : SimB π m ns bs) : SimB π m (n :: ns) (b0 :: bs) :=
  ⟨⟨b, h, e1, e2, e3, fun _ => by rw [e4]; exact .leaf e5⟩, r⟩
theorem simB_cons {π : Nat → Option Nat} {m : Mem} {n : Nat} {ns : List Nat} {b b0 : Blk} {bs : Mem} {cs : List Value} (h : m[n]? = some b) (e1 : b.es = b0.es) (e2 : b.own = b0.own) (e3 : b.live = b0.live) (hr : renL 64 inert π b0.cells = some cs) (e4 : b.cells = cs) (r : SimB π m ns bs) : SimB π m (n :: ns) (b0 :: bs) :=
  ⟨⟨b, h, e1, e2, e3, fun _ => by rw [e4]; exact renL_sound hr⟩, r⟩

theorem SimB.simM {m m0 : Mem} {ns : List Nat} (hn : ns.Nodup) (h : SimB (fun i => ns[i]?) m ns m0) : SimM inert (fun i => ns[i]?) m0 m := by
  obtain ⟨hl, hg⟩ := h.get
  refine ⟨fun a b c h1 h2 => ?_, fun n n' h1 => ?_, fun n n' b0 h1 h2 => hg n n' b0 h2 h1⟩
  · have a1 := List.getElem?_eq_some_iff.1 h1
    have a2 := List.getElem?_eq_some_iff.1 h2
    exact (List.getElem_inj hn (h₀ := a1.1) (h₁ := a2.1)).1 (a1.2.trans a2.2.symm)
  · rw [← hl]; exact (List.getElem?_eq_some_iff.1 h1).1

theorem RunF.normM (h0 : C.G = 0) (ns : List Nat) (hn : ns.Nodup) {todo : List Item} {T T0 : Tm} {m m0 : Mem} {v : Value} (hT : SimT inert (fun i => ns[i]?) T T0) (hM : SimB (fun i => ns[i]?) m ns m0) (h : RunF C fn todo T0 m0 v) : RunF C fn todo T m v :=
  h.norm h0 _ hT (hM.simM hn)
end

theorem holds_some {p : Prop} (h : p) : Holds (some p) := h

/-! Lists of numbers. -/
abbrev intsV (k : IntKind) (l : List Int) : Value := roS l.length (l.map (.int k))
def intsD (v : Value) : List Int := (cellsS v).map intOf

@[simp] theorem intOf_int (k : IntKind) (n : Int) : intOf (.int k n) = n := rfl
@[simp] theorem boolOf_bool (b : Bool) : boolOf (.bool b) = b := rfl
@[simp] theorem strOf_string (s : ByteArray) : strOf (.string s) = s := rfl
@[simp] theorem lenS_roS (n : Nat) (cs : List Value) : lenS (roS n cs) = n := rfl
@[simp] theorem cellsS_roS (n : Nat) (cs : List Value) : cellsS (roS n cs) = cs := by simp [roS, cellsS]
@[simp] theorem lenS_iface (n : Nat) (x : Value) : lenS (.iface n x) = n := rfl
@[simp] theorem cellsS_iface (n : Nat) (cs : Array Value) : cellsS (.iface n (.agg cs)) = cs.toList := rfl
@[simp] theorem cells_agg (cs : Array Value) : (Value.agg cs).cells = cs := rfl
@[simp] theorem intsD_intsV (k : IntKind) (l : List Int) : intsD (intsV k l) = l := by
  simp only [intsD, intsV, cellsS_roS, List.map_map]
  conv => rhs; rw [← List.map_id l]
  rfl
@[simp] theorem cells_int (k : IntKind) (n : Int) : (Value.int k n).cells = #[Value.int k n] := rfl
@[simp] theorem cells_bool (b : Bool) : (Value.bool b).cells = #[Value.bool b] := rfl
@[simp] theorem cells_iface (n : Nat) (v : Value) : (Value.iface n v).cells = #[Value.iface n v] := rfl
@[simp] theorem intsD_iface (n : Nat) (cs : Array Value) : intsD (.iface n (.agg cs)) = cs.toList.map intOf := rfl
attribute [simp] splice
@[simp] theorem map_intOf (k : IntKind) (l : List Int) : List.map (intOf ∘ Value.int k) l = l := by
  conv => rhs; rw [← List.map_id l]
  rfl
@[simp] theorem lenS_intsV (k : IntKind) (l : List Int) : lenS (intsV k l) = l.length := rfl
@[simp] theorem cellsS_intsV (k : IntKind) (l : List Int) : cellsS (intsV k l) = l.map (.int k) := by simp [intsV]
@[simp] theorem getD_int (k : IntKind) (l : List Int) (i : Nat) : intOf ((l[i]?.map (Value.int k)).getD .nilFunc) = l[i]?.getD 0 := by
  cases l[i]? <;> rfl
@[simp] theorem all_inert_int (k : IntKind) (l : List Int) : (l.map (Value.int k)).all inert = true := by simp [inert]
@[simp] theorem all_fixd_int (k : IntKind) (l : List Int) : (l.map (Value.int k)).all fixd = true := by simp [fixd]

/-- One of a list of numbers, loaded. -/
theorem load_ints {k : IntKind} {l : List Int} {j s : Nat} (hs : 0 < s) (h : j < l.length) :
    List.take 1 (List.take s (List.drop j (l.map (Value.int k)).toArray.toList)).toArray.toList = [Value.int k (intOf ((List.take s (List.drop j (l.map (Value.int k)).toArray.toList)).toArray.toList.getD 0 .nilFunc))] := by
  obtain ⟨s, rfl⟩ : ∃ s', s = s' + 1 := ⟨s - 1, by omega⟩
  have : List.drop j (l.map (Value.int k)) = Value.int k l[j] :: List.drop (j + 1) (l.map (Value.int k)) := by
    rw [List.drop_eq_getElem_cons (by simpa using h)]
    simp
  simp [this]

theorem loaded {k : IntKind} {l : List Int} {j s : Nat} (hs : 0 < s) : intOf ((List.take s (List.drop j (l.map (Value.int k)).toArray.toList)).toArray.toList.getD 0 .nilFunc) = l.getD j 0 := by
  obtain ⟨s, rfl⟩ : ∃ s', s = s' + 1 := ⟨s - 1, by omega⟩
  simp only [List.getD_eq_getElem?_getD]
  rw [List.getElem?_take_of_lt (by omega), List.getElem?_drop]
  simp

theorem take1_drop {l : List Value} {j : Nat} (h : j < l.length) : (l.drop j).take 1 = [l[j]] := by
  rw [List.drop_eq_getElem_cons h]
  rfl

/-- Whole numbers that fit. -/
theorem wrap64 {n : Int} (h : -9223372036854775808 ≤ n) (h' : n < 9223372036854775808) : IntKind.i64.wrap n = n := by
  unfold IntKind.wrap
  simp only [IntKind.bits, IntKind.signed, Bool.true_and, decide_eq_true_eq, ge_iff_le]
  by_cases hc : (2 : Int) ^ (64 - 1) ≤ n % 2 ^ 64
  · rw [if_pos hc]; omega
  · rw [if_neg hc]; omega
end Go.Ab
