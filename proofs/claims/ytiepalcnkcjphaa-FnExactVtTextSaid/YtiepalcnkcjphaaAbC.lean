/- Part of an own evaluator of Go code on numbered blocks, and of the proof that the machine does what it says; each theorem carries its own conditions. -/
import Derived.Test.YtiepalcnkcjphaaAbB
set_option linter.unusedVariables false
set_option linter.unusedSimpArgs false
namespace Go.Ab
structure AfterK (B k : Nat) (ι : Emb) (m : Mem) (w : World) (ι' : Emb) (m' : Mem) (w' : World) : Prop where
  len : k ≤ m'.length
  keep : ∀ n, n < k → ι' n = ι n
  tight : ∀ n, m'.length ≤ n → ι' n = none
  rep : Rep B ι' m' w'
  frame : ∀ g, g < w.heap.size → (∀ n l b, ι n = some l → m[n]? = some b → b.live = true → b.own = true → l.g ≠ g) → w'.heap[g]? = w.heap[g]?
  origin : ∀ n l b, k ≤ n → ι' n = some l → m'[n]? = some b → b.live = true →
    w.heap.size ≤ l.g ∨ (∃ j l0 b0, ι j = some l0 ∧ m[j]? = some b0 ∧ b0.live = true ∧ b0.own = true ∧ l0.g = l.g) ∨ (∃ j l0 b0, k ≤ j ∧ ι j = some l0 ∧ m[j]? = some b0 ∧ b0.live = true ∧ l0.g = l.g)
  alive : ∀ (n : Nat) b', n < k → m'[n]? = some b' → ∃ b, m[n]? = some b ∧ b'.es = b.es ∧ (b'.own = true → b.own = true) ∧ (b'.live = true → b.live = true)
  fz : ∀ g c, ι.fz g = some c → ι'.fz g = some c
  ice : ∀ g, ι.fz g = none → ι'.fz g = none ∨ w.heap.size ≤ g ∨ ∃ n l b, ι n = some l ∧ m[n]? = some b ∧ b.live = true ∧ b.own = true ∧ l.g = g
  unreal : ∀ (n : Nat), n < k → ι n = none → m'[n]? = m[n]?
  os : w'.os = w.os
  tape : w'.tape = w.tape
  output : w'.output = w.output
  size : w.heap.size ≤ w'.heap.size
def Tight (ι : Emb) (m : Mem) : Prop := ∀ n, m.length ≤ n → ι n = none
section
variable {C : Cfg} {B k : Nat} {ι ι1 ι2 : Emb} {m m1 m2 : Mem} {w w1 w2 : World}
theorem AfterK.refl (R : Rep B ι m w) (ht : Tight ι m) (hk : k ≤ m.length) : AfterK B k ι m w ι m w where
  len := hk
  keep _ _ := rfl
  tight := ht
  rep := R
  frame _ _ _ := rfl
  origin n l b h1 h2 h3 h4 := .inr (.inr ⟨n, l, b, h1, h2, h3, h4, rfl⟩)
  alive n b' _ h := ⟨b', h, rfl, id, id⟩
  fz _ _ h := h
  ice _ h := .inl h
  unreal _ _ _ := rfl
  os := rfl
  tape := rfl
  output := rfl
  size := Nat.le_refl _
theorem AfterK.step (h1 : After B ι m w ι1 m1 w1) (hk : k ≤ m.length) (h2 : AfterK B k ι1 m1 w1 ι2 m2 w2) : AfterK B k ι m w ι2 m2 w2 where
  len := h2.len
  keep n h := by rw [h2.keep n h, h1.keep n (.inl (by omega))]
  tight := h2.tight
  rep := h2.rep
  frame g hg hn := by
    rw [h2.frame g (Nat.lt_of_lt_of_le hg h1.size) ?_, h1.frame g hg hn]
    intro n l b hl hb hv ho
    rcases Nat.lt_or_ge n m.length with hlt | hge
    · obtain ⟨b0, e0, _, e1, e2⟩ := h1.alive n b hlt hb
      rw [h1.keep n (.inl hlt)] at hl
      exact hn n l b0 hl e0 (e2 hv) (e1 ho)
    · rcases h1.origin n l b hge hl hb hv with h | ⟨k, l0, b0, a1, a2, a3, a4, a5⟩
      · omega
      · rw [← a5]; exact hn k l0 b0 a1 a2 a3 a4
  origin n l b hn hl hb hv := by
    rcases h2.origin n l b hn hl hb hv with h | ⟨j, l0, b0, a1, a2, a3, a4, a5⟩ | ⟨j, l0, b0, a0, a1, a2, a3, a5⟩
    · exact .inl (Nat.le_trans h1.size h)
    · rcases Nat.lt_or_ge j m.length with hj | hj
      · obtain ⟨c0, e0, _, e1, e2⟩ := h1.alive j b0 hj a2
        rw [h1.keep j (.inl hj)] at a1
        exact .inr (.inl ⟨j, l0, c0, a1, e0, e2 a3, e1 a4, a5⟩)
      · rcases h1.origin j l0 b0 hj a1 a2 a3 with h | ⟨k', l', b', c1, c2, c3, c4, c5⟩
        · exact .inl (by omega)
        · exact .inr (.inl ⟨k', l', b', c1, c2, c3, c4, c5.trans a5⟩)
    · rcases Nat.lt_or_ge j m.length with hj | hj
      · obtain ⟨c0, e0, _, e1, e2⟩ := h1.alive j b0 hj a2
        rw [h1.keep j (.inl hj)] at a1
        exact .inr (.inr ⟨j, l0, c0, a0, a1, e0, e2 a3, a5⟩)
      · rcases h1.origin j l0 b0 hj a1 a2 a3 with h | ⟨k', l', b', c1, c2, c3, c4, c5⟩
        · exact .inl (by omega)
        · exact .inr (.inl ⟨k', l', b', c1, c2, c3, c4, c5.trans a5⟩)
  alive n b' hn hb := by
    obtain ⟨b1, e0, e1, e2, e3⟩ := h2.alive n b' hn hb
    obtain ⟨b, d0, d1, d2, d3⟩ := h1.alive n b1 (by omega) e0
    exact ⟨b, d0, e1.trans d1, fun h => d2 (e2 h), fun h => d3 (e3 h)⟩
  fz g c h := h2.fz g c (h1.fz g c h)
  ice g hg := by
    rcases h1.ice g hg with h | h
    · rcases h2.ice g h with h' | h' | ⟨n, l, b, a1, a2, a3, a4, a5⟩
      · exact .inl h'
      · exact .inr (.inl (Nat.le_trans h1.size h'))
      · rcases Nat.lt_or_ge n m.length with hn | hn
        · obtain ⟨c0, e0, _, e1, e2⟩ := h1.alive n b hn a2
          rw [h1.keep n (.inl hn)] at a1
          exact .inr (.inr ⟨n, l, c0, a1, e0, e2 a3, e1 a4, a5⟩)
        · rcases h1.origin n l b hn a1 a2 a3 with h' | ⟨k', l', b', c1, c2, c3, c4, c5⟩
          · exact .inr (.inl (by omega))
          · exact .inr (.inr ⟨k', l', b', c1, c2, c3, c4, c5.trans a5⟩)
    · exact .inr h
  unreal n hn h := by
    rw [h2.unreal n hn (by rw [h1.keep n (.inl (by omega))]; exact h), h1.unreal n (by omega) h]
  os := h2.os.trans h1.os
  tape := h2.tape.trans h1.tape
  output := h2.output.trans h1.output
  size := Nat.le_trans h1.size h2.size
def Run (C : Cfg) (k : Nat) (fn : Func) (todo : List Item) (T : Tm) (m : Mem) (v : Value) (m' : Mem) : Prop :=
  ∀ (B : Nat) (ι : Emb) (w : World) (a : Act) (b : Frame) (cs : List Frame), Rep B ι m w → GlobOK C ι → B ≤ w.heap.size → TR ι T a.tmps → Tight ι m → k ≤ m.length → fn.ntmps ≤ a.tmps.size → a.defers = [] →
    ∃ w' fr ι' v', Steps C.P (lone (b.at a todo) cs w) (lone fr cs w') ∧ fr.fn = b.fn ∧ fr.kind = b.kind ∧ fr.mode = .returning ∧ fr.defers = [] ∧ (results fn fr.tmps).run C.P w' = .ok v' w' ∧ AfterK B k ι m w ι' m' w' ∧ VR ι' v v'
variable {fn : Func} {r : List Item} {T : Tm} {v : Value} {m' : Mem}
theorem Run.go {todo todo' : List Item} (hst : ∀ (ι : Emb) (w : World) (a : Act) (b : Frame) (cs : List Frame), TR ι T a.tmps → GlobOK C ι → _root_.Go.step C.P (lone (b.at a todo) cs w) = .next (lone (b.at a todo') cs w))
    (h : Run C k fn todo' T m v m') : Run C k fn todo T m v m' := by
  intro B ι w a b cs R hG hB hT ht hk hN hd
  obtain ⟨w', fr, ι', v', q1, rest⟩ := h B ι w a b cs R hG hB hT ht hk hN hd
  exact ⟨w', fr, ι', v', .head (hst ι w a b cs hT hG) q1, rest⟩
theorem Run.fin (hC : CfgOK C) {todo : List Item} (hr : resultA C fn m T = some v)
    (hst : ∀ (w : World) (a : Act) (b : Frame) (cs : List Frame), ∃ fr, Steps C.P (lone (b.at a todo) cs w) (lone fr cs w) ∧ fr.fn = b.fn ∧ fr.kind = b.kind ∧ fr.mode = .returning ∧ fr.defers = a.defers ∧ fr.tmps = a.tmps) : Run C k fn todo T m v m := by
  intro B ι w a b cs R hG hB hT ht hk hN hd
  obtain ⟨v', r, hv⟩ := resultA_sound hC R hT hr
  obtain ⟨fr, hs, e1, e2, e3, e4, e5⟩ := hst w a b cs
  exact ⟨w, fr, ι, v', hs, e1, e2, e3, e4.trans hd, by rw [e5]; exact hv, .refl R ht hk, r⟩
theorem Run.end (hC : CfgOK C) (hr : resultA C fn m T = some v) : Run C k fn [] T m v m :=
  .fin hC hr fun _ _ _ _ => ⟨_, .one step_end, rfl, rfl, rfl, rfl, rfl⟩
theorem Run.ret (hC : CfgOK C) (hr : resultA C fn m T = some v) : Run C k fn (.code .ret :: r) T m v m :=
  .fin hC hr fun _ _ _ _ => ⟨_, .one step_ret, rfl, rfl, rfl, rfl, rfl⟩
theorem Run.inBlock {id : Nat} (h : Run C k fn r T m v m') : Run C k fn (.inBlock id :: r) T m v m' := .go (fun _ _ _ _ _ _ _ => step_inBlock) h
theorem Run.inLoop {c : Code} (h : Run C k fn (.code c :: .inLoop c :: r) T m v m') : Run C k fn (.inLoop c :: r) T m v m' := .go (fun _ _ _ _ _ _ _ => step_inLoop) h
theorem Run.skip (h : Run C k fn r T m v m') : Run C k fn (.code .skip :: r) T m v m' := .go (fun _ _ _ _ _ _ _ => step_skip) h
theorem Run.seq {a b : Code} (h : Run C k fn (.code a :: .code b :: r) T m v m') : Run C k fn (.code (.seq a b) :: r) T m v m' := .go (fun _ _ _ _ _ _ _ => step_seq) h
theorem Run.block {id : Nat} {c : Code} (h : Run C k fn (.code c :: .inBlock id :: r) T m v m') : Run C k fn (.code (.block id c) :: r) T m v m' := .go (fun _ _ _ _ _ _ _ => step_block) h
theorem Run.loop {c : Code} (h : Run C k fn (.code c :: .inLoop c :: r) T m v m') : Run C k fn (.code (.loop c) :: r) T m v m' := .go (fun _ _ _ _ _ _ _ => step_loop) h
theorem Run.exit {id : Nat} {r' : List Item} (he : exitTo id r = some r') (h : Run C k fn r' T m v m') : Run C k fn (.code (.exit id) :: r) T m v m' := .go (fun _ _ _ _ _ _ _ => step_exit he) h
theorem Run.tt {c : Operand} {a b : Code} (hc : ev C T c = some (.bool true)) (h : Run C k fn (.code a :: r) T m v m') : Run C k fn (.code (.cond c a b) :: r) T m v m' := .go (fun ι w x _ _ hT hG => by
  have r := ev_sound (a := x) hT hG hc
  generalize hx : x.eval _ = y at r
  cases r
  exact step_cond (t := true) hx) h
theorem Run.ff {c : Operand} {a b : Code} (hc : ev C T c = some (.bool false)) (h : Run C k fn (.code b :: r) T m v m') : Run C k fn (.code (.cond c a b) :: r) T m v m' := .go (fun ι w x _ _ hT hG => by
  have r := ev_sound (a := x) hT hG hc
  generalize hx : x.eval _ = y at r
  cases r
  exact step_cond (t := false) hx) h
theorem Run.region (hC : CfgOK C) {call : CallF} (hcall : CallOK C call) {id : Nat} {ops : Array Oper} {draw : Bool} {T1 : Tm} {m1 : Mem} (hreg : aRegion C call fn.ntmps ops.toList draw T m = some (T1, m1))
    (h : Run C k fn r T1 m1 v m') : Run C k fn (.code (.region id ops draw) :: r) T m v m' := by
  intro B ι w a b cs R hG hB hT ht hk hN hd
  have hgr : Grow m m1 := by
    have hreg' := hreg
    unfold aRegion at hreg'
    split at hreg'
    · split at hreg'
      · cases hreg'
      · rename_i E T2 m2 ha
        have := aOps_grows (call_grow hcall) ha
        split at hreg'
        · split at hreg'
          · cases hreg'; exact this
          · cases hreg'
        · cases hreg'; exact this
    · cases hreg'
  have hF1 : Free ι m.length m1.length := fun n h1 _ => ht n h1
  have hreg2 := region_goes hC hcall hreg R hB hT hG hF1 hN id (fun e a' w' => e = .normal ∧ Behind B ι m w a T1 m1 a' w') (fun a' w' hb => ⟨rfl, hb⟩)
  obtain ⟨e, a', w1, ⟨rfl, ι1, A, hT1, hd1, hs1⟩, harr⟩ := hreg2 b _ cs
  obtain ⟨w', fr, ι', v', q1, q2, q3, q4, q5, q6, q7, q8⟩ := h B ι1 w1 a' b cs A.rep (hG.mono (A.le hF1)) (Nat.le_trans hB A.size) hT1 (fun n h1 => by
    rw [A.keep n (.inr h1)]
    exact ht n (Nat.le_trans hgr.len h1)) (Nat.le_trans hk hgr.len) (by rw [hs1]; exact hN) (hd1.trans hd)
  exact ⟨w', fr, ι', v', Steps.trans harr q1, q2, q3, q4, q5, q6, .step A hk q7, q8⟩
end
end Go.Ab
namespace Go.Ab
def hard : Value → Bool
  | .bool _ | .int _ _ | .string _ | .nilFunc | .pointer none | .slice none 0 0 => true
  | .iface 0 (.agg cs) => cs.size == 0
  | _ => false
inductive RN (p : Value → Bool) (π : Nat → Option Nat) : Value → Value → Prop where
  | inert (v : Value) : p v = true → RN p π v v
  | ptr (n n' o : Nat) : π n = some n' → RN p π (.pointer (some ⟨n, o, none⟩)) (.pointer (some ⟨n', o, none⟩))
  | sl (n n' o len cap : Nat) : π n = some n' → RN p π (.slice (some ⟨n, o, none⟩) len cap) (.slice (some ⟨n', o, none⟩) len cap)
  | func (fn : Fn) (a a' b b' : Array Value) : a.size = a'.size → (∀ (i : Nat) x y, a[i]? = some x → a'[i]? = some y → RN p π x y) →
      b.size = b'.size → (∀ (i : Nat) x y, b[i]? = some x → b'[i]? = some y → RN p π x y) → RN p π (.func fn a b) (.func fn a' b')
  | agg (a a' : Array Value) : a.size = a'.size → (∀ (i : Nat) x y, a[i]? = some x → a'[i]? = some y → RN p π x y) → RN p π (.agg a) (.agg a')
  | tuple (a a' : Array Value) : a.size = a'.size → (∀ (i : Nat) x y, a[i]? = some x → a'[i]? = some y → RN p π x y) → RN p π (.tuple a) (.tuple a')
def RNL (p : Value → Bool) (π : Nat → Option Nat) (xs ys : List Value) : Prop := xs.length = ys.length ∧ ∀ (i : Nat) x y, xs[i]? = some x → ys[i]? = some y → RN p π x y
theorem RNL.nil {p : Value → Bool} {π : Nat → Option Nat} : RNL p π [] [] := ⟨rfl, fun i x y h => by simp at h⟩
theorem RNL.cons {p : Value → Bool} {π : Nat → Option Nat} {x y : Value} {xs ys : List Value} (h : RN p π x y) (t : RNL p π xs ys) : RNL p π (x :: xs) (y :: ys) := by
  refine ⟨by simp [t.1], fun i a b ha hb => ?_⟩
  cases i with
  | zero => simp at ha hb; subst ha; subst hb; exact h
  | succ i => simp at ha hb; exact t.2 i a b ha hb
theorem RNL.leaf {p : Value → Bool} {π : Nat → Option Nat} {xs : List Value} (h : xs.all p = true) : RNL p π xs xs :=
  ⟨rfl, fun i x y hx hy => by rw [hx] at hy; cases hy; exact .inert x (List.all_eq_true.1 h x (List.mem_of_getElem? hx))⟩
mutual
def renV (k : Nat) (p : Value → Bool) (π : Nat → Option Nat) (v : Value) : Option Value :=
  match k with
  | 0 => none
  | k + 1 => match v with
    | .bool b => if p (.bool b) = true then some (.bool b) else none
    | .int q n => if p (.int q n) = true then some (.int q n) else none
    | .string s => if p (.string s) = true then some (.string s) else none
    | .nilFunc => if p .nilFunc = true then some .nilFunc else none
    | .iface n x => if p (.iface n x) = true then some (.iface n x) else none
    | .pointer none => if p (.pointer none) = true then some (.pointer none) else none
    | .slice none 0 0 => if p (.slice none 0 0) = true then some (.slice none 0 0) else none
    | .pointer (some ⟨n, o, none⟩) => match π n with
      | some n' => some (.pointer (some ⟨n', o, none⟩))
      | none => none
    | .slice (some ⟨n, o, none⟩) len cap => match π n with
      | some n' => some (.slice (some ⟨n', o, none⟩) len cap)
      | none => none
    | .agg cs => match renL k p π cs.toList with
      | some xs => some (.agg xs.toArray)
      | none => none
    | .tuple cs => match renL k p π cs.toList with
      | some xs => some (.tuple xs.toArray)
      | none => none
    | .func fn a b => match renL k p π a.toList, renL k p π b.toList with
      | some xs, some ys => some (.func fn xs.toArray ys.toArray)
      | _, _ => none
    | _ => none
def renL (k : Nat) (p : Value → Bool) (π : Nat → Option Nat) (vs : List Value) : Option (List Value) :=
  match k with
  | 0 => none
  | k + 1 => match vs with
    | [] => some []
    | v :: vs => match renV k p π v with
      | none => none
      | some x => match renL k p π vs with
        | none => none
        | some xs => some (x :: xs)
end
theorem RNL.arr {p : Value → Bool} {π : Nat → Option Nat} {a : Array Value} {ys : List Value} (h : RNL p π a.toList ys) : a.size = ys.toArray.size ∧ ∀ (i : Nat) x y, a[i]? = some x → ys.toArray[i]? = some y → RN p π x y :=
  ⟨by have := h.1; simpa using this, fun i x y hx hy => h.2 i x y (by simpa using hx) (by simpa using hy)⟩
theorem RN.back {p : Value → Bool} {π : Nat → Option Nat} {ι ι0 : Emb} (hp : ∀ v, p v = true → Ab.inert v = true) (hfz : ι0.fz = ι.fz) (hl : ∀ n n' l, π n = some n' → ι n' = some l → ι0 n = some l) {v0 v : Value} (h : RN p π v0 v) : ∀ v', VR ι v v' → VR ι0 v0 v' := by
  induction h with
  | inert v hv => exact fun v' r => VR.inert hfz r (hp v hv)
  | ptr n n' o hn =>
    intro v' r
    cases r with
    | ptr _ _ l h1 => exact .ptr n o l (hl _ _ _ hn h1)
  | sl n n' o len cap hn =>
    intro v' r
    cases r with
    | sl _ _ _ _ l off ccap h1 h2 h3 h4 h5 => exact .sl n o len cap l off ccap (hl _ _ _ hn h1) h2 h3 h4 h5
  | func fn a a' b b' h1 _ h2 _ ih1 ih2 =>
    intro v' r
    cases r with
    | func _ _ c _ d q1 q2 q3 q4 =>
      refine .func fn a c b d (h1.trans q1) (fun i x y hx hy => ?_) (h2.trans q3) (fun i x y hx hy => ?_)
      · have hi : i < a'.size := by rw [← h1]; exact (Array.getElem?_eq_some_iff.1 hx).1
        exact ih1 i x _ hx (Array.getElem?_eq_getElem hi) y (q2 i _ y (Array.getElem?_eq_getElem hi) hy)
      · have hi : i < b'.size := by rw [← h2]; exact (Array.getElem?_eq_some_iff.1 hx).1
        exact ih2 i x _ hx (Array.getElem?_eq_getElem hi) y (q4 i _ y (Array.getElem?_eq_getElem hi) hy)
  | agg a a' h1 _ ih =>
    intro v' r
    cases r with
    | agg _ c q1 q2 =>
      refine .agg a c (h1.trans q1) (fun i x y hx hy => ?_)
      have hi : i < a'.size := by rw [← h1]; exact (Array.getElem?_eq_some_iff.1 hx).1
      exact ih i x _ hx (Array.getElem?_eq_getElem hi) y (q2 i _ y (Array.getElem?_eq_getElem hi) hy)
  | tuple a a' h1 _ ih =>
    intro v' r
    cases r with
    | tuple _ c q1 q2 =>
      refine .tuple a c (h1.trans q1) (fun i x y hx hy => ?_)
      have hi : i < a'.size := by rw [← h1]; exact (Array.getElem?_eq_some_iff.1 hx).1
      exact ih i x _ hx (Array.getElem?_eq_getElem hi) y (q2 i _ y (Array.getElem?_eq_getElem hi) hy)
theorem RNL.back {p : Value → Bool} {π : Nat → Option Nat} {ι ι0 : Emb} (hp : ∀ v, p v = true → Ab.inert v = true) (hfz : ι0.fz = ι.fz) (hl : ∀ n n' l, π n = some n' → ι n' = some l → ι0 n = some l) {v0 v v' : List Value} (h : RNL p π v0 v) (r : VRL ι v v') : VRL ι0 v0 v' := by
  refine ⟨h.1.trans r.1, fun i x y hx hy => ?_⟩
  have hi : i < v.length := by rw [← h.1]; exact (List.getElem?_eq_some_iff.1 hx).1
  exact (h.2 i x _ hx (List.getElem?_eq_getElem hi)).back hp hfz hl y (r.2 i _ y (List.getElem?_eq_getElem hi) hy)
def Emb.via (ι : Emb) (π : Nat → Option Nat) : Emb := { ι with loc := fun n => (π n).bind ι.loc }
structure SB (p : Value → Bool) (π : Nat → Option Nat) (b0 b : Blk) : Prop where
  es : b.es = b0.es
  own : b.own = b0.own
  live : b.live = b0.live
  cells : b0.live = true → RNL p π b0.cells b.cells
structure SimM (p : Value → Bool) (π : Nat → Option Nat) (m0 m : Mem) : Prop where
  inj : ∀ a b c, π a = some c → π b = some c → a = b
  dom : ∀ n n', π n = some n' → n < m0.length
  blk : ∀ n n' b0, m0[n]? = some b0 → π n = some n' → ∃ b, m[n']? = some b ∧ SB p π b0 b
theorem RN.flat {p : Value → Bool} {π : Nat → Option Nat} {v0 v : Value} (h : RN p π v0 v) : Ab.flat v0 = Ab.flat v := by
  cases h <;> rfl
theorem SimM.rep {B : Nat} {ι : Emb} {m0 m : Mem} {w : World} {p : Value → Bool} {π : Nat → Option Nat} (hp : ∀ v, p v = true → Ab.inert v = true) (S : SimM p π m0 m) (R : Rep B ι m w) : Rep B (ι.via π) m0 w := by
  have look : ∀ n l b0, (π n).bind ι.loc = some l → m0[n]? = some b0 → ∃ n' b, π n = some n' ∧ ι n' = some l ∧ m[n']? = some b ∧ SB p π b0 b := by
    intro n l b0 h1 h2
    rw [Option.bind_eq_some_iff] at h1
    obtain ⟨n', h3, h4⟩ := h1
    obtain ⟨b, h5, h6⟩ := S.blk n n' b0 h2 h3
    exact ⟨n', b, h3, h4, h5, h6⟩
  refine ⟨?_, ?_, ?_, ?_, R.frozen, ?_, ?_⟩
  · intro n l b0 h1 h2 h3
    obtain ⟨n', b, p, h4, h5, s⟩ := look n l b0 h1 h2
    have M := R.cells n' l b h4 h5 (by rw [s.live]; exact h3)
    obtain ⟨c, e, z, m1, m2, m3, m4, m5⟩ := M.ex
    have hc := s.cells h3
    refine ⟨⟨c, e, z, m1, m2, by rw [hc.1]; exact m3, fun i x hx => ?_, fun ho => m5 (by rw [s.own]; exact ho)⟩, ?_⟩
    · have hi : i < b.cells.length := by rw [← hc.1]; exact (List.getElem?_eq_some_iff.1 hx).1
      obtain ⟨v', t1, t2⟩ := m4 i _ (List.getElem?_eq_getElem hi)
      exact ⟨v', t1, (hc.2 i x _ hx (List.getElem?_eq_getElem hi)).back (ι := ι) (ι0 := ι.via π) hp rfl (fun n n' l q1 q2 => by show (π n).bind ι.loc = some l; rw [q1]; exact q2) v' t2⟩
    · have hf := M.flat
      rw [List.all_eq_true] at hf ⊢
      intro x hx
      obtain ⟨i, hi, rfl⟩ := List.getElem_of_mem hx
      have hi' : i < b.cells.length := by rw [← hc.1]; exact hi
      rw [(hc.2 i _ _ (List.getElem?_eq_getElem hi) (List.getElem?_eq_getElem hi')).flat]
      exact hf _ (List.getElem_mem hi')
  · intro n n2 l l2 b b2 hne h1 h2 h3 h4 h5 h6 h7
    obtain ⟨n', c, p, q1, q2, s⟩ := look n l b h1 h3
    obtain ⟨n2', c2, p2, q12, q22, s2⟩ := look n2 l2 b2 h2 h4
    exact R.apart n' n2' l l2 c c2 (fun e => by subst e; exact hne (S.inj _ _ _ p p2)) q1 q12 q2 q22 (by rw [s.live]; exact h5) (by rw [s2.live]; exact h6) (by rw [s.own]; exact h7)
  · intro n l b h1 h2 h3 h4
    obtain ⟨n', c, p, q1, q2, s⟩ := look n l b h1 h2
    exact R.base n' l c q1 q2 (by rw [s.live]; exact h3) (by rw [s.own]; exact h4)
  · intro n l b h1 h2
    obtain ⟨n', c, p, q1, q2, s⟩ := look n l b h1 h2
    rw [← s.es]
    exact R.es n' l c q1 q2
  · intro n l b h1 h2 h3 h4
    obtain ⟨n', c, p, q1, q2, s⟩ := look n l b h1 h2
    exact R.cold n' l c q1 q2 (by rw [s.live]; exact h3) (by rw [s.own]; exact h4)
  · intro n l b h1 h2 h3 h4
    obtain ⟨n', c, p, q1, q2, s⟩ := look n l b h1 h2
    exact R.kept n' l c q1 q2 (by rw [s.live]; exact h3) (by rw [s.own]; exact h4)
section
variable {C : Cfg} {k : Nat} {fn : Func} {todo : List Item} {T T0 : Tm} {m m0 m' : Mem} {v : Value}
def SimT (p : Value → Bool) (π : Nat → Option Nat) (T : Tm) : Tm → Prop
  | [] => True
  | (t, v0) :: r => (∃ v, T.lookup t = some v ∧ RN p π v0 v) ∧ SimT p π T r
theorem SimT.get {p : Value → Bool} {π : Nat → Option Nat} : ∀ {T0 : Tm}, SimT p π T T0 → ∀ t v0, T0.lookup t = some v0 → ∃ v, T.lookup t = some v ∧ RN p π v0 v
  | [], _, t, v0, h => by simp at h
  | (t1, v1) :: r, hs, t, v0, h => by
    rw [List.lookup_cons] at h
    by_cases e : t = t1
    · subst e
      simp at h
      subst h
      exact hs.1
    · have : (t == t1) = false := by simpa using e
      rw [this] at h
      exact hs.2.get t v0 h
def Entry (k : Nat) (π : Nat → Option Nat) (T : Tm) (m0 m : Mem) : Prop :=
  ∀ n, n < k → π n = some n ∧ (m0[n]? = m[n]? ∨ ∃ t o, T.lookup t = some (.pointer (some ⟨n, o, none⟩)))
theorem Entry.zero {π : Nat → Option Nat} : Entry 0 π T m0 m := fun n h => by omega
theorem Run.norm (π : Nat → Option Nat) (hT : SimT inert π T T0) (S : SimM inert π m0 m) (hE : Entry k π T m0 m) (hG : C.G ≤ k) (h : Run C k fn todo T0 m0 v m') : Run C k fn todo T m v m' := by
  intro B ι w a b cs R hGl hB hTR ht hk hN hd
  have look : ∀ n l, (π n).bind ι.loc = some l → ∃ n', π n = some n' ∧ ι n' = some l := by
    intro n l h1
    rw [Option.bind_eq_some_iff] at h1
    exact h1
  have ent : ∀ n, n < k → (π n).bind ι.loc = ι n := fun n hn => by rw [(hE n hn).1]; rfl
  have hk0 : k ≤ m0.length := by
    rcases Nat.eq_zero_or_pos k with h0 | h0
    · omega
    · have := S.dom (k - 1) (k - 1) (hE (k - 1) (by omega)).1
      omega
  have own : ∀ {n l b0}, (π n).bind ι.loc = some l → m0[n]? = some b0 → b0.live = true → b0.own = true → ∃ n' b, ι n' = some l ∧ m[n']? = some b ∧ b.live = true ∧ b.own = true := by
    intro n l b0 h1 h2 h3 h4
    obtain ⟨n', h5, h6⟩ := look n l h1
    obtain ⟨b, h7, s⟩ := S.blk n n' b0 h2 h5
    exact ⟨n', b, h6, h7, by rw [s.live]; exact h3, by rw [s.own]; exact h4⟩
  obtain ⟨w', fr, ι', v', q1, q2, q3, q4, q5, q6, A, q8⟩ := h B (ι.via π) w a b cs (SimM.rep (fun _ h => h) S R) (by
      intro g hg
      obtain ⟨l, h1, h2⟩ := hGl g hg
      exact ⟨l, by show (π g).bind ι.loc = some l; rw [ent g (by omega)]; exact h1, h2⟩) hB (by
      intro t v0 h1
      obtain ⟨v1, h2, h3⟩ := hT.get t v0 h1
      obtain ⟨v', h4, h5⟩ := hTR t v1 h2
      exact ⟨v', h4, h3.back (ι := ι) (ι0 := ι.via π) (fun _ h => h) rfl (fun n n' l q1 q2 => by show (π n).bind ι.loc = some l; rw [q1]; exact q2) v' h5⟩) (by
      intro n hn
      show (π n).bind ι.loc = none
      cases hp : π n with
      | none => rfl
      | some n' => have := S.dom n n' hp; omega) hk0 hN hd
  refine ⟨w', fr, ι', v', q1, q2, q3, q4, q5, q6, ?_, q8⟩
  refine { len := A.len, keep := fun n hn => by rw [A.keep n hn]; exact ent n hn, tight := A.tight, rep := A.rep, frame := ?_, origin := ?_, alive := ?_, fz := A.fz, ice := ?_, unreal := ?_, os := A.os, tape := A.tape, output := A.output, size := A.size }
  · intro g hg hn
    refine A.frame g hg fun n l b0 h1 h2 h3 h4 => ?_
    obtain ⟨n', b, e1, e2, e3, e4⟩ := own h1 h2 h3 h4
    exact hn n' l b e1 e2 e3 e4
  · intro n l b h1 h2 h3 h4
    rcases A.origin n l b h1 h2 h3 h4 with h | ⟨j, l0, b0, a1, a2, a3, a4, a5⟩ | ⟨j, l0, b0, a0, a1, a2, a3, a5⟩
    · exact .inl h
    · obtain ⟨n', c, e1, e2, e3, e4⟩ := own a1 a2 a3 a4
      exact .inr (.inl ⟨n', l0, c, e1, e2, e3, e4, a5⟩)
    · obtain ⟨j', h5, h6⟩ := look j l0 a1
      obtain ⟨c, h7, s⟩ := S.blk j j' b0 a2 h5
      refine .inr (.inr ⟨j', l0, c, ?_, h6, h7, by rw [s.live]; exact a3, a5⟩)
      rcases Nat.lt_or_ge j' k with hj | hj
      · have := S.inj j j' j' h5 (hE j' hj).1
        omega
      · exact hj
  · intro n b' hn hb
    obtain ⟨b0, h1, h2, h3, h4⟩ := A.alive n b' hn hb
    obtain ⟨c, h5, s⟩ := S.blk n n b0 h1 (hE n hn).1
    exact ⟨c, h5, h2.trans s.es.symm, fun h => by rw [s.own]; exact h3 h, fun h => by rw [s.live]; exact h4 h⟩
  · intro g hg
    rcases A.ice g hg with h | h | ⟨n, l, b0, a1, a2, a3, a4, a5⟩
    · exact .inl h
    · exact .inr (.inl h)
    · obtain ⟨n', c, e1, e2, e3, e4⟩ := own a1 a2 a3 a4
      exact .inr (.inr ⟨n', l, c, e1, e2, e3, e4, a5⟩)
  · intro n hn h1
    rw [A.unreal n hn (by rw [← h1]; exact ent n hn)]
    rcases (hE n hn).2 with h2 | ⟨t, o, h2⟩
    · exact h2
    · obtain ⟨v', _, h4⟩ := hTR t _ h2
      cases h4 with
      | ptr _ _ l h5 => rw [h1] at h5; cases h5
end
end Go.Ab
namespace Go.Ab
def Con (C : Cfg) (f : FuncId) (args : List Value) (m : Mem) (v : Value) (m' : Mem) : Prop :=
  Grow m m' ∧
  (∃ fn, C.P.funcs[f]? = some fn ∧ (fn.name == "runtime.NumGoroutine") = false ∧ fn.body.isNone = false) ∧
  ∀ B ι w (args' : Array Value), Rep B ι m w → GlobOK C ι → B ≤ w.heap.size → VRL ι args args'.toList → Free ι m.length m'.length →
    Calls C.P f args' w fun e w' => ∃ v' ι', e = .returned v' ∧ After B ι m w ι' m' w' ∧ VR ι' v v'
structure Inst where
  f : FuncId
  args : List Value
  m : Mem
  v : Value
  m' : Mem
def low (N : Nat) : Nat → Option Nat := fun n => if n < N then some n else none
section
variable {C : Cfg} {f : FuncId} {g : Func} {c : Code} {args : List Value} {m m' m2 : Mem} {v v' v0 : Value}
theorem After.ofK {B : Nat} {ι ιt ι' : Emb} {w w' : World} (ht : ∀ n, ιt n = if n < m.length then ι n else none) (hz : ιt.fz = ι.fz) (A : AfterK B m.length ιt m w ι' m' w') :
    After B ι m w { ι' with loc := fun n => if n < m'.length then ι' n else ι n } m' w' where
  len := A.len
  keep n h := by
    have hl := A.len
    show (if n < m'.length then ι' n else ι n) = ι n
    split
    · rcases h with h | h
      · rw [A.keep n h, ht n, if_pos h]
      · omega
    · rfl
  rep := by
    have R := A.rep
    have loc : ∀ {n l b}, (if n < m'.length then ι' n else ι n) = some l → m'[n]? = some b → ι' n = some l := by
      intro n l b h1 h2
      rw [if_pos (List.getElem?_eq_some_iff.1 h2).1] at h1
      exact h1
    have hle : ι'.le { ι' with loc := fun n => if n < m'.length then ι' n else ι n } := by
      refine ⟨fun n l h => ?_, fun _ _ h => h⟩
      show (if n < m'.length then ι' n else ι n) = some l
      split
      · exact h
      · rw [A.tight n (by omega)] at h; cases h
    exact ⟨fun n l b h1 h2 h3 => (R.cells n l b (loc h1 h2) h2 h3).mono hle, fun n n' l l' b b' h0 h1 h2 h3 h4 h5 h6 h7 => R.apart n n' l l' b b' h0 (loc h1 h3) (loc h2 h4) h3 h4 h5 h6 h7,
      fun n l b h1 h2 h3 h4 => R.base n l b (loc h1 h2) h2 h3 h4, fun n l b h1 h2 => R.es n l b (loc h1 h2) h2, R.frozen, fun n l b h1 h2 h3 h4 => R.cold n l b (loc h1 h2) h2 h3 h4, fun n l b h1 h2 h3 h4 => R.kept n l b (loc h1 h2) h2 h3 h4⟩
  frame g hg hn := by
    refine A.frame g hg fun n l b h1 h2 h3 h4 => ?_
    rw [ht] at h1
    split at h1
    · exact hn n l b h1 h2 h3 h4
    · cases h1
  origin n l b h1 h2 h3 h4 := by
    have h2' : ι' n = some l := by
      have : (if n < m'.length then ι' n else ι n) = some l := h2
      rw [if_pos (List.getElem?_eq_some_iff.1 h3).1] at this
      exact this
    rcases A.origin n l b h1 h2' h3 h4 with h | ⟨j, l0, b0, a1, a2, a3, a4, a5⟩ | ⟨j, l0, b0, a0, a1, a2, a3, a5⟩
    · exact .inl h
    · rw [ht] at a1
      split at a1
      · exact .inr ⟨j, l0, b0, a1, a2, a3, a4, a5⟩
      · cases a1
    · have := (List.getElem?_eq_some_iff.1 a2).1
      omega
  alive := A.alive
  fz g c h := A.fz g c (by rw [hz]; exact h)
  ice g h := by
    rcases A.ice g (by rw [hz]; exact h) with h | h | ⟨j, l0, b0, a1, a2, a3, a4, a5⟩
    · exact .inl h
    · exact .inr (.inl h)
    · rw [ht] at a1
      split at a1
      · exact .inr (.inr ⟨j, l0, b0, a1, a2, a3, a4, a5⟩)
      · cases a1
  unreal n h1 h2 := A.unreal n h1 (by rw [ht, if_pos h1]; exact h2)
  os := A.os
  tape := A.tape
  output := A.output
  size := A.size
def Closed (m : Mem) : Prop := ∀ (n : Nat) b, m[n]? = some b → b.live = true → RNL inert (low m.length) b.cells b.cells
theorem Closed.nil : Closed [] := fun n b h => by simp at h
theorem low_some {N n n' : Nat} (h : low N n = some n') : n' = n ∧ n < N := by
  unfold low at h
  split at h
  · cases h; exact ⟨rfl, ‹_›⟩
  · cases h
theorem Closed.sim (h : Closed m) : SimM inert (low m.length) m m := by
  refine ⟨fun a b c h1 h2 => ?_, fun n n' h => (low_some h).2, fun n n' b h1 h2 => ?_⟩
  · rw [← (low_some h1).1, ← (low_some h2).1]
  · have e := (low_some h2).1
    subst e
    exact ⟨b, h1, rfl, rfl, rfl, fun hl => h _ b h1 hl⟩
theorem Con.of_run (hg : C.P.funcs[f]? = some g) (hb : g.body = some c) (hl : args.length ≤ g.ntmps) (hn : (g.name == "runtime.NumGoroutine") = false) (hG : C.G ≤ m.length) (hgrow : Grow m m') (hm : Closed m) (hlow : RNL inert (low m.length) args args)
    (h : Run C m.length g [.code c] (argsT 0 args) m v m') : Con C f args m v m' := by
  refine ⟨hgrow, ⟨g, hg, hn, by rw [hb]; rfl⟩, fun B ι w args' R hGl hB hargs hF cs => ?_⟩
  have hlen : args'.size = args.length := by have := hargs.1; simpa using this.symm
  have via : ∀ n, (ι.via (low m.length)) n = if n < m.length then ι n else none := by
    intro n
    show (low m.length n).bind ι.loc = _
    unfold low
    split <;> rfl
  have hargs1 : VRL (ι.via (low m.length)) args args'.toList := hlow.back (ι := ι) (ι0 := ι.via (low m.length)) (fun _ h => h) rfl (fun n n' l q1 q2 => by
    obtain ⟨e, h1⟩ := low_some q1
    subst e
    rw [via, if_pos h1]
    exact q2) hargs
  obtain ⟨w', fr, ι', v', q1, q2, q3, q4, q5, q6, A, q8⟩ := h B (ι.via (low m.length)) w { tmps := args' ++ Array.replicate (g.ntmps - args'.size) undef, defers := [] } { (default : Frame) with fn := f, kind := .normal } cs (SimM.rep (fun _ h => h) hm.sim R) (by
      intro n hn
      obtain ⟨l, h1, h2⟩ := hGl n hn
      exact ⟨l, by rw [via, if_pos (by omega)]; exact h1, h2⟩) hB (by
      intro t u hu
      rw [argsT_lookup] at hu
      simp at hu
      obtain ⟨y, e1, e2⟩ := hargs1.get hu
      refine ⟨y, ?_, e2⟩
      have ht : t < args'.size := by
        have := (List.getElem?_eq_some_iff.1 e1).1
        simpa using this
      rw [Array.getElem?_append_left ht]
      simpa using e1) (fun n hn => by rw [via, if_neg (by omega)]) (Nat.le_refl _) (by simp; omega) rfl
  have henter : Frame.enter C.P f args' .normal = ({ (default : Frame) with fn := f, kind := .normal } : Frame).at { tmps := args' ++ Array.replicate (g.ntmps - args'.size) undef, defers := [] } [.code c] := by
    simp [Frame.enter, Frame.at, hg, hb]
  have A2 := After.ofK (ιt := ι.via (low m.length)) via rfl A
  have hle : ι'.le { ι' with loc := fun n => if n < m'.length then ι' n else ι n } := by
    refine ⟨fun n l h => ?_, fun _ _ h => h⟩
    show (if n < m'.length then ι' n else ι n) = some l
    split
    · exact h
    · rw [A.tight n (by omega)] at h; cases h
  exact ⟨.returned v', w', fr, ⟨v', _, rfl, A2, q8.mono hle⟩, by rw [henter]; exact q1, q2, q4, q5, q3, g, by rw [q2]; exact hg, q6⟩
theorem Con.ok (h : Con C f args m v m') : ∃ fn, C.P.funcs[f]? = some fn ∧ (fn.name == "runtime.NumGoroutine") = false ∧ fn.body.isNone = false := h.2.1
variable {as : List Value} {ns ns2 : List Nat}
theorem Con.inner (h : Con C f as (m.take C.G) v0 m2) (has : mapF (frz 64 m) args = some (as, ns)) (hGm : C.G ≤ m.length) (hglob : (m.take C.G).all (fun b => !b.own && b.cells.all inert) = true)
    {B : Nat} {ι : Emb} {w : World} {args' : Array Value} (R : Rep B ι m w) (hG : GlobOK C ι) (hB : B ≤ w.heap.size) (hargs : VRL ι args args'.toList) :
    After B ι m w (ι.freeze (Spots ι m ns) w) (sealM m ns) w ∧ (∀ (n : Nat) (b : Blk), ((sealM m ns).take C.G)[n]? = some b → b.own = false) ∧
    Calls C.P f args' w fun e w' => ∃ v' ι1, e = .returned v' ∧ After B ((ι.freeze (Spots ι m ns) w).cut C.G) ((sealM m ns).take C.G) w ι1 m2 w' ∧ VR ι1 v0 v' := by
  have seen := mapF_seen (frz_seen R 64) _ _ _ _ has hargs
  have S := After.seal R seen
  have las := mapF_sound (fun v v' vf ns => frz_sound R (freeze_le R _).fz 64 v v' vf ns) _ _ _ _ has (freeze_iced R ns) hargs
  have hall : ∀ (n : Nat) (b : Blk), (m.take C.G)[n]? = some b → b.own = false ∧ b.cells.all inert = true := by
    intro n b hn
    have := hglob
    rw [List.all_eq_true] at this
    have := this b (List.mem_of_getElem? hn)
    simpa using this
  have hsame : (sealM m ns).take C.G = m.take C.G := by
    apply List.ext_getElem?
    intro n
    rw [List.getElem?_take, List.getElem?_take]
    split
    · rename_i hn
      have hnm : n < m.length := by omega
      have h1 : (sealM m ns)[n]? = some ((sealM m ns)[n]'(by rw [seal_len]; exact hnm)) := List.getElem?_eq_getElem _
      obtain ⟨b, q1, q2, q3, q4, q5⟩ := seal_get ns m n _ h1
      rw [h1, q1]
      rcases q5 with ⟨_, q5⟩ | ⟨_, q5⟩
      · have ho := (hall n b (by rw [List.getElem?_take, if_pos hn]; exact q1)).1
        generalize (sealM m ns)[n]'(by rw [seal_len]; exact hnm) = b' at q2 q3 q4 q5
        cases b; cases b'
        simp only at q2 q3 q4 q5 ho
        subst q2 q3 q4 q5 ho
        rfl
      · rw [q5]
    · rfl
  have hin : ∀ (n : Nat) (b : Blk), ((sealM m ns).take C.G)[n]? = some b → b.cells.all inert = true := fun n b hn => by
    rw [hsame] at hn
    exact (hall n b hn).2
  have hown : ∀ (n : Nat) (b : Blk), ((sealM m ns).take C.G)[n]? = some b → b.own = false := fun n b hn => by
    rw [hsame] at hn
    exact (hall n b hn).1
  have R1 := cut_rep S.rep C.G hin
  have hG1 : GlobOK C ((ι.freeze (Spots ι m ns) w).cut C.G) := by
    intro n hn
    obtain ⟨l, q1, q2⟩ := hG n hn
    exact ⟨l, by simp only [Emb.cut]; rw [if_pos hn]; exact q1, q2⟩
  have hfree : Free ((ι.freeze (Spots ι m ns) w).cut C.G) ((sealM m ns).take C.G).length m2.length := by
    intro n h1 _
    simp only [List.length_take, seal_len] at h1
    simp only [Emb.cut]
    rw [if_neg (by omega)]
  rw [← hsame] at h
  exact ⟨S, hown, h.2.2 B _ w args' R1 hG1 hB (las.mono (show (ι.freeze (Spots ι m ns) w).bare.le ((ι.freeze (Spots ι m ns) w).cut C.G) from ⟨fun _ _ e => by simp [Emb.bare] at e, fun _ _ e => e⟩)) hfree⟩
theorem Con.still (h : Con C f as (m.take C.G) v0 m2) (has : mapF (frz 64 m) args = some (as, ns)) (hv : frz 64 m2 v0 = some (v', ns2)) (hGm : C.G ≤ m.length) (hglob : (m.take C.G).all (fun b => !b.own && b.cells.all inert) = true) : Con C f args m v' (sealM m ns) := by
  refine ⟨seal_grow m ns, h.ok, fun B ι w args' R hG hB hargs _ => ?_⟩
  obtain ⟨S, hown, hcall⟩ := h.inner has hGm hglob R hG hB hargs
  refine hcall.mono ?_
  rintro e w' ⟨v1, ι1, rfl, A, r⟩
  have A2 := After.still S.rep hown A ns2
  refine ⟨v1, _, rfl, S.trans A2, ?_⟩
  have := frz_sound (ι' := ι1.freeze (Spots ι1 m2 ns2) w') A.rep (freeze_le A.rep ns2).fz 64 v0 v1 _ ns2 hv (freeze_iced A.rep ns2) r
  exact this.mono (show (ι1.freeze (Spots ι1 m2 ns2) w').bare.le { (ι.freeze (Spots ι m ns) w) with fz := (ι1.freeze (Spots ι1 m2 ns2) w').fz } from ⟨fun _ _ e => by simp [Emb.bare] at e, fun _ _ e => e⟩)
end
end Go.Ab
namespace Go.Ab
theorem VR.hard {ι ι' : Emb} {v v' : Value} (r : VR ι v v') (h : Ab.hard v = true) : VR ι' v v' := by
  cases r with
  | bool b => exact .bool b
  | int k n => exact .int k n
  | string s => exact .string s
  | nilFunc => exact .nilFunc
  | ptrNil => exact .ptrNil
  | ptr n o l h1 => simp [Ab.hard] at h
  | slNil a ha => exact .slNil a ha
  | sl n o len acap l off ccap h1 h2 h3 h4 h5 => simp [Ab.hard] at h
  | ro len cs g off ccap c h1 h2 h3 h4 h5 =>
    cases len with
    | zero =>
      have h0 : cs.size = 0 := by simpa [Ab.hard] using h
      obtain rfl : cs = #[] := Array.eq_empty_of_size_eq_zero h0
      exact .ro0 _ _ (.some _ _)
    | succ n => simp [Ab.hard] at h
  | ro0 a ccap ha => exact .ro0 a ccap ha
  | sNil ccap => exact .sNil ccap
  | sEmp a ccap => exact .sEmp a ccap
  | rop cs g off c h1 h2 h3 h4 => simp [Ab.hard] at h
  | func fn a a' b b' h1 h2 h3 h4 => simp [Ab.hard] at h
  | agg a a' h1 h2 => simp [Ab.hard] at h
  | tuple a a' h1 h2 => simp [Ab.hard] at h
theorem RN.forth {p : Value → Bool} {π : Nat → Option Nat} {ι ι0 : Emb} (hp : ∀ v v', p v = true → VR ι0 v v' → VR ι v v') (hl : ∀ n n' l, π n = some n' → ι0 n = some l → ι n' = some l) {v0 v : Value} (h : RN p π v0 v) : ∀ v', VR ι0 v0 v' → VR ι v v' := by
  induction h with
  | inert v hv => exact fun v' r => hp v v' hv r
  | ptr n n' o hn =>
    intro v' r
    cases r with
    | ptr _ _ l h1 => exact .ptr n' o l (hl _ _ _ hn h1)
  | sl n n' o len cap hn =>
    intro v' r
    cases r with
    | sl _ _ _ _ l off ccap h1 h2 h3 h4 h5 => exact .sl n' o len cap l off ccap (hl _ _ _ hn h1) h2 h3 h4 h5
  | func fn a a' b b' h1 _ h2 _ ih1 ih2 =>
    intro v' r
    cases r with
    | func _ _ c _ d q1 q2 q3 q4 =>
      refine .func fn a' c b' d (h1.symm.trans q1) (fun i x y hx hy => ?_) (h2.symm.trans q3) (fun i x y hx hy => ?_)
      · have hi : i < a.size := by rw [h1]; exact (Array.getElem?_eq_some_iff.1 hx).1
        exact ih1 i _ x (Array.getElem?_eq_getElem hi) hx y (q2 i _ y (Array.getElem?_eq_getElem hi) hy)
      · have hi : i < b.size := by rw [h2]; exact (Array.getElem?_eq_some_iff.1 hx).1
        exact ih2 i _ x (Array.getElem?_eq_getElem hi) hx y (q4 i _ y (Array.getElem?_eq_getElem hi) hy)
  | agg a a' h1 _ ih =>
    intro v' r
    cases r with
    | agg _ c q1 q2 =>
      refine .agg a' c (h1.symm.trans q1) (fun i x y hx hy => ?_)
      have hi : i < a.size := by rw [h1]; exact (Array.getElem?_eq_some_iff.1 hx).1
      exact ih i _ x (Array.getElem?_eq_getElem hi) hx y (q2 i _ y (Array.getElem?_eq_getElem hi) hy)
  | tuple a a' h1 _ ih =>
    intro v' r
    cases r with
    | tuple _ c q1 q2 =>
      refine .tuple a' c (h1.symm.trans q1) (fun i x y hx hy => ?_)
      have hi : i < a.size := by rw [h1]; exact (Array.getElem?_eq_some_iff.1 hx).1
      exact ih i _ x (Array.getElem?_eq_getElem hi) hx y (q2 i _ y (Array.getElem?_eq_getElem hi) hy)
theorem Match.forth {p : Value → Bool} {π : Nat → Option Nat} {ι ι0 : Emb} {b0 b : Blk} {l : Loc} {w : World} (hp : ∀ v v', p v = true → VR ι0 v v' → VR ι v v') (hl : ∀ n n' l, π n = some n' → ι0 n = some l → ι n' = some l) (s : SB p π b0 b) (hlive : b0.live = true) (M : Match ι0 b0 l w) : Match ι b l w := by
  obtain ⟨c, e, z, m1, m2, m3, m4, m5⟩ := M.ex
  have hc := s.cells hlive
  refine ⟨⟨c, e, z, m1, m2, by rw [← hc.1]; exact m3, fun i x hx => ?_, fun ho => m5 (by rw [← s.own]; exact ho)⟩, ?_⟩
  · have hi : i < b0.cells.length := by rw [hc.1]; exact (List.getElem?_eq_some_iff.1 hx).1
    obtain ⟨v', t1, t2⟩ := m4 i _ (List.getElem?_eq_getElem hi)
    exact ⟨v', t1, (hc.2 i _ x (List.getElem?_eq_getElem hi) hx).forth hp hl v' t2⟩
  · have hf := M.flat
    rw [List.all_eq_true] at hf ⊢
    intro x hx
    obtain ⟨i, hi, rfl⟩ := List.getElem_of_mem hx
    have hi' : i < b0.cells.length := by rw [hc.1]; exact hi
    rw [← (hc.2 i _ _ (List.getElem?_eq_getElem hi') (List.getElem?_eq_getElem hi)).flat]
    exact hf _ (List.getElem_mem hi')
section
variable {C : Cfg} {f : FuncId} {args as : List Value} {m m2 : Mem} {v v0 : Value} {ns : List Nat}
def OwnL (π : Nat → Option Nat) (m2 : Mem) : List Nat → List Blk → Prop
  | [], [] => True
  | n :: ns, b :: bs => (∃ b2, m2[n]? = some b2 ∧ b2.live = true ∧ b2.own = true ∧ SB hard π b2 b) ∧ OwnL π m2 ns bs
  | _, _ => False
theorem OwnL.get {π : Nat → Option Nat} : ∀ {ns : List Nat} {bs : List Blk}, OwnL π m2 ns bs → ns.length = bs.length ∧ ∀ (i : Nat) b, bs[i]? = some b → ∃ n b2, ns[i]? = some n ∧ m2[n]? = some b2 ∧ b2.live = true ∧ b2.own = true ∧ SB hard π b2 b
  | [], [], _ => ⟨rfl, fun i b h => by simp at h⟩
  | n :: ns, b :: bs, h => by
    obtain ⟨⟨b2, h1, h2, h3, h4⟩, ht⟩ := h
    have := ht.get
    refine ⟨by simp [this.1], fun i x hx => ?_⟩
    cases i with
    | zero => simp at hx; subst hx; exact ⟨n, b2, rfl, h1, h2, h3, h4⟩
    | succ i => simp at hx; exact this.2 i x hx
  | [], _ :: _, h => h.elim
  | _ :: _, [], h => h.elim
def place (N : Nat) (ns : List Nat) : Nat → Option Nat := fun n => (ns.idxOf? n).map (· + N)
theorem place_some {N : Nat} {ns : List Nat} {n n' : Nat} (h : place N ns n = some n') : ∃ i, ns[i]? = some n ∧ n' = i + N := by
  unfold place at h
  cases hi : ns.idxOf? n with
  | none => rw [hi] at h; cases h
  | some i =>
    rw [hi] at h
    cases h
    refine ⟨i, ?_, rfl⟩
    rw [List.idxOf?_eq_some_iff] at hi
    obtain ⟨h1, h2, _⟩ := hi
    rw [List.getElem?_eq_getElem h1, h2]
theorem Con.own (h : Con C f as (m.take C.G) v0 m2) (has : mapF (frz 64 m) args = some (as, ns)) (hGm : C.G ≤ m.length) (hglob : (m.take C.G).all (fun b => !b.own && b.cells.all inert) = true)
    (ns3 : List Nat) (blks : List Blk) (hnd : ns3.Nodup) (hb : OwnL (place m.length ns3) m2 ns3 blks) (hv : RN hard (place m.length ns3) v0 v) : Con C f args m v (m ++ blks) := by
  have hgrow : Grow m (m ++ blks) := ⟨by simp, fun k b hk => ⟨b, by rw [List.getElem?_append_left (List.getElem?_eq_some_iff.1 hk).1]; exact hk, rfl, id, id⟩⟩
  refine ⟨hgrow, h.ok, fun B ι w args' R hG hB hargs hF => ?_⟩
  obtain ⟨S, hown, hcall⟩ := h.inner has hGm hglob R hG hB hargs
  refine hcall.mono ?_
  rintro e w' ⟨v1, ι1, rfl, A, r⟩
  have own2 : ∀ {n l b}, ι1 n = some l → m2[n]? = some b → b.live = true → b.own = true → w.heap.size ≤ l.g := by
    intro n l b h1 h2 h3 h4
    rcases Nat.lt_or_ge n ((sealM m ns).take C.G).length with h | h
    · obtain ⟨b0, q1, _, q2, _⟩ := A.alive n b h h2
      have := hown n b0 q1
      rw [q2 h4] at this
      cases this
    · rcases A.origin n l b h h1 h2 h3 with h' | ⟨k, l0, b0, _, q2, _, q4, _⟩
      · exact h'
      · have := hown k b0 q2
        rw [q4] at this
        cases this
  have frame : ∀ g, g < w.heap.size → w'.heap[g]? = w.heap[g]? := fun g h => A.frame g h fun n l b _ q2 _ q4 => by
    have := hown n b q2
    rw [q4] at this
    cases this
  obtain ⟨hlen, hget⟩ := hb.get
  let ι2 : Emb := { ι with loc := fun n => if n < m.length then ι n else match ns3[n - m.length]? with
    | some k => ι1 k
    | none => ι n }
  have loc0 : ∀ {n}, n < m.length → ι2 n = ι n := fun h => if_pos h
  have loc1 : ∀ {i k}, ns3[i]? = some k → ι2 (i + m.length) = ι1 k := by
    intro i k h
    show (if i + m.length < m.length then _ else match ns3[i + m.length - m.length]? with
      | some k => ι1 k
      | none => ι (i + m.length)) = _
    rw [if_neg (by omega), Nat.add_sub_cancel, h]
  have blk : ∀ {n b}, (m ++ blks)[n]? = some b → (n < m.length ∧ m[n]? = some b) ∨ ∃ i k b2, n = i + m.length ∧ ns3[i]? = some k ∧ m2[k]? = some b2 ∧ b2.live = true ∧ b2.own = true ∧ SB hard (place m.length ns3) b2 b := by
    intro n b h
    rcases Nat.lt_or_ge n m.length with hn | hn
    · rw [List.getElem?_append_left hn] at h
      exact .inl ⟨hn, h⟩
    · rw [List.getElem?_append_right hn] at h
      obtain ⟨k, b2, h1, h2, h3, h4, h5⟩ := hget _ b h
      exact .inr ⟨n - m.length, k, b2, by omega, h1, h2, h3, h4, h5⟩
  have hl : ∀ n n' l, place m.length ns3 n = some n' → ι1 n = some l → ι2 n' = some l := by
    intro n n' l h1 h2
    obtain ⟨i, h3, rfl⟩ := place_some h1
    rw [loc1 h3]
    exact h2
  have hle : ι.le ι2 := by
    refine ⟨fun n l h => ?_, fun _ _ h => h⟩
    rcases Nat.lt_or_ge n m.length with hn | hn
    · rw [loc0 hn]; exact h
    · show (if n < m.length then _ else match ns3[n - m.length]? with
        | some k => ι1 k
        | none => ι n) = some l
      rw [if_neg (by omega)]
      split
      · rename_i k hk
        have : n < (m ++ blks).length := by
          have := (List.getElem?_eq_some_iff.1 hk).1
          simp
          omega
        rw [hF n hn this] at h
        cases h
      · exact h
  have hsz : ∀ {n l b}, ι n = some l → m[n]? = some b → b.live = true → l.g < w.heap.size := fun h1 h2 h3 => (R.cells _ _ _ h1 h2 h3).lt
  refine ⟨v1, ι2, rfl, ?_, hv.forth (fun v v' h r => r.hard h) hl v1 r⟩
  refine { len := hgrow.len, keep := ?_, rep := ⟨?_, ?_, ?_, ?_, ?_, ?_, ?_⟩, frame := fun g h _ => frame g h, origin := ?_, alive := ?_, fz := fun _ _ h => h, ice := fun g h => .inl h, unreal := ?_, os := A.os, tape := A.tape, output := A.output, size := A.size }
  · intro n hn
    rcases hn with hn | hn
    · exact loc0 hn
    · have h0 : ns3[n - m.length]? = none := by
        rw [List.getElem?_eq_none_iff, hlen]
        simp at hn
        omega
      show (if n < m.length then _ else match ns3[n - m.length]? with
        | some k => ι1 k
        | none => ι n) = ι n
      rw [h0]
      split <;> rfl
  · intro n l b h1 h2 h3
    rcases blk h2 with ⟨hn, h4⟩ | ⟨i, k, b2, rfl, h4, h5, h6, h7, s⟩
    · rw [loc0 hn] at h1
      have M := R.cells n l b h1 h4 h3
      exact (M.mono hle).heap (frame _ M.lt)
    · rw [loc1 h4] at h1
      exact (A.rep.cells k l b2 h1 h5 h6).forth (fun v v' h r => r.hard h) hl s h6
  · intro n n' l l' b b' hne h1 h2 h3 h4 h5 h6 h7
    rcases blk h3 with ⟨hn, e1⟩ | ⟨i, k, b2, rfl, e1, e2, e3, e4, s⟩ <;> rcases blk h4 with ⟨hn', e1'⟩ | ⟨i', k', b2', rfl, e1', e2', e3', e4', s'⟩
    · rw [loc0 hn] at h1
      rw [loc0 hn'] at h2
      exact R.apart n n' l l' b b' hne h1 h2 e1 e1' h5 h6 h7
    · rw [loc0 hn] at h1
      rw [loc1 e1'] at h2
      have := own2 h2 e2' e3' e4'
      have := hsz h1 e1 h5
      omega
    · rw [loc1 e1] at h1
      rw [loc0 hn'] at h2
      have := own2 h1 e2 e3 e4
      have := hsz h2 e1' h6
      omega
    · rw [loc1 e1] at h1
      rw [loc1 e1'] at h2
      refine A.rep.apart k k' l l' b2 b2' (fun hk => hne ?_) h1 h2 e2 e2' e3 e3' e4
      subst hk
      have a1 := List.getElem?_eq_some_iff.1 e1
      have a2 := List.getElem?_eq_some_iff.1 e1'
      have := (List.getElem_inj hnd (h₀ := a1.1) (h₁ := a2.1)).1 (a1.2.trans a2.2.symm)
      omega
  · intro n l b h1 h2 h3 h4
    rcases blk h2 with ⟨hn, e1⟩ | ⟨i, k, b2, rfl, e1, e2, e3, e4, s⟩
    · rw [loc0 hn] at h1
      exact R.base n l b h1 e1 h3 h4
    · rw [loc1 e1] at h1
      exact Nat.le_trans hB (own2 h1 e2 e3 e4)
  · intro n l b h1 h2
    rcases blk h2 with ⟨hn, e1⟩ | ⟨i, k, b2, rfl, e1, e2, e3, e4, s⟩
    · rw [loc0 hn] at h1
      exact R.es n l b h1 e1
    · rw [loc1 e1] at h1
      rw [s.es]
      exact A.rep.es k l b2 h1 e2
  · intro g c h
    obtain ⟨e, z, hz⟩ := R.frozen g c h
    exact ⟨e, z, by rw [frame g (Array.getElem?_eq_some_iff.1 hz).1]; exact hz⟩
  · intro n l b h1 h2 h3 h4
    rcases blk h2 with ⟨hn, e1⟩ | ⟨i, k, b2, rfl, e1, e2, e3, e4, s⟩
    · rw [loc0 hn] at h1
      exact R.cold n l b h1 e1 h3 h4
    · rw [loc1 e1] at h1
      have h0 := own2 h1 e2 e3 e4
      show ι.fz l.g = none
      cases hc : ι.fz l.g with
      | none => rfl
      | some c =>
        obtain ⟨e, z, hz⟩ := R.frozen _ c hc
        have := (Array.getElem?_eq_some_iff.1 hz).1
        omega
  · intro n l b h1 h2 h3 h4
    rcases blk h2 with ⟨hn, e1⟩ | ⟨i, k, b2, rfl, e1, e2, e3, e4, s⟩
    · rw [loc0 hn] at h1
      exact R.kept n l b h1 e1 h3 h4
    · rw [s.own, e4] at h4
      cases h4
  · intro n l b hn h1 h2 h3
    rcases blk h2 with ⟨hn', e1⟩ | ⟨i, k, b2, rfl, e1, e2, e3, e4, s⟩
    · omega
    · rw [loc1 e1] at h1
      exact .inl (own2 h1 e2 e3 e4)
  · intro n b hn h1
    rw [List.getElem?_append_left hn] at h1
    exact ⟨b, h1, rfl, id, id⟩
  · intro n hn _
    rw [List.getElem?_append_left hn]
end
end Go.Ab
namespace Go.Ab
section
variable {C : Cfg} {f : FuncId} {args args0 : List Value} {m m0 m0' m' : Mem} {v v0 : Value} {π : Nat → Option Nat}
def pts (v : Value) (n : Nat) : Prop := (∃ o, v = .pointer (some ⟨n, o, none⟩)) ∨ ∃ o len cap, v = .slice (some ⟨n, o, none⟩) len cap
def nmV : Nat → Value → List Nat
  | 0, _ => []
  | k + 1, v => match v with
    | .pointer (some ⟨n, _, _⟩) => [n]
    | .slice (some ⟨n, _, _⟩) _ _ => [n]
    | .agg cs => cs.toList.flatMap (nmV k)
    | .tuple cs => cs.toList.flatMap (nmV k)
    | .func _ a b => a.toList.flatMap (nmV k) ++ b.toList.flatMap (nmV k)
    | _ => []
theorem nm_real {ι : Emb} {n : Nat} : ∀ (k : Nat) {v v' : Value}, n ∈ nmV k v → VR ι v v' → ∃ l, ι n = some l := by
  intro k
  induction k with
  | zero => intro v v' h; cases h
  | succ k ih =>
    have arr : ∀ {a a' : Array Value}, a.size = a'.size → (∀ (i : Nat) x y, a[i]? = some x → a'[i]? = some y → VR ι x y) → n ∈ a.toList.flatMap (nmV k) → ∃ l, ι n = some l := by
      intro a a' h1 h2 h
      rw [List.mem_flatMap] at h
      obtain ⟨x, hx, hn⟩ := h
      obtain ⟨i, hi, rfl⟩ := List.getElem_of_mem hx
      have hi' : i < a.size := by simpa using hi
      exact ih hn (h2 i _ _ (by simp) (Array.getElem?_eq_getElem (by omega)))
    intro v v' h r
    unfold nmV at h
    cases r with
    | ptr n' o l hl => simp at h; subst h; exact ⟨l, hl⟩
    | sl n' o len acap l off ccap hl => simp at h; subst h; exact ⟨l, hl⟩
    | agg a a' h1 h2 => exact arr h1 h2 h
    | tuple a a' h1 h2 => exact arr h1 h2 h
    | func fn a a' b b' h1 h2 h3 h4 =>
      simp only [List.mem_append] at h
      rcases h with h | h
      · exact arr h1 h2 h
      · exact arr h3 h4 h
    | _ => simp at h
inductive Real (m : Mem) (args : List Value) : Nat → Prop where
  | arg (i : Nat) (v : Value) (n : Nat) : args[i]? = some v → pts v n → Real m args n
  | part (i j : Nat) (cs : Array Value) (v : Value) (n : Nat) : args[i]? = some (.agg cs) → cs[j]? = some v → pts v n → Real m args n
  | cell (k : Nat) (b : Blk) (i : Nat) (v : Value) (n : Nat) : Real m args k → m[k]? = some b → b.live = true → b.cells[i]? = some v → pts v n → Real m args n
  | nm (i : Nat) (v : Value) (n : Nat) : args[i]? = some v → n ∈ nmV 8 v → Real m args n
  | cnm (k : Nat) (b : Blk) (i : Nat) (v : Value) (n : Nat) : Real m args k → m[k]? = some b → b.live = true → b.cells[i]? = some v → n ∈ nmV 8 v → Real m args n
theorem pts_real {ι : Emb} {v v' : Value} {n : Nat} (h : pts v n) (r : VR ι v v') : ∃ l, ι n = some l := by
  rcases h with ⟨o, rfl⟩ | ⟨o, len, cap, rfl⟩
  · cases r with
    | ptr _ _ l h => exact ⟨l, h⟩
  · cases r with
    | sl _ _ _ _ l _ _ h => exact ⟨l, h⟩
theorem Real.loc {B : Nat} {ι : Emb} {w : World} {args' : List Value} (R : Rep B ι m w) (ha : VRL ι args args') {n : Nat} (h : Real m args n) : ∃ l, ι n = some l := by
  induction h with
  | arg i v n h1 h2 =>
    obtain ⟨y, _, r⟩ := ha.get h1
    exact pts_real h2 r
  | part i j cs v n h1 h2 h3 =>
    obtain ⟨y, _, r⟩ := ha.get h1
    cases r with
    | agg _ c q1 q2 =>
      have hj : j < c.size := by rw [← q1]; exact (Array.getElem?_eq_some_iff.1 h2).1
      exact pts_real h3 (q2 j v _ h2 (Array.getElem?_eq_getElem hj))
  | cell k b i v n _ h1 h2 h3 h4 ih =>
    obtain ⟨l, hl⟩ := ih
    obtain ⟨c, e, z, m1, m2, m3, m4, m5⟩ := (R.cells k l b hl h1 h2).ex
    obtain ⟨v', _, r⟩ := m4 i v h3
    exact pts_real h4 r
  | nm i v n h1 h2 =>
    obtain ⟨y, _, r⟩ := ha.get h1
    exact nm_real 8 h2 r
  | cnm k b i v n _ h1 h2 h3 h4 ih =>
    obtain ⟨l, hl⟩ := ih
    obtain ⟨c, e, z, m1, m2, m3, m4, m5⟩ := (R.cells k l b hl h1 h2).ex
    obtain ⟨v', _, r⟩ := m4 i v h3
    exact nm_real 8 h4 r
def more (π : Nat → Option Nat) (a b N : Nat) : Nat → Option Nat := fun n => if n < a then π n else if n < b then some (N + (n - a)) else none
theorem VR.fzle {ι ι1 : Emb} (hfz : ∀ g c, ι.fz g = some c → ι1.fz g = some c) {v v' : Value} (r : VR ι v v') (h : Ab.inert v = true) : VR ι1 v v' := by
  have r1 : VR { ι with loc := ι1.loc } v v' := VR.inert (ι := ι) (ι1 := { ι with loc := ι1.loc }) rfl r h
  have hle : Emb.le { ι with loc := ι1.loc } ι1 := ⟨fun _ _ h => h, hfz⟩
  exact r1.mono hle
theorem Con.frame (h : Con C f args0 m0 v0 m0') (S : SimM inert π m0 m) (hG : ∀ g, g < C.G → π g = some g) (hargs : RNL inert π args0 args)
    (hlen : m'.length = m.length + (m0'.length - m0.length))
    (hout : ∀ n, n < m.length → (∀ k, π k ≠ some n) → m'[n]? = m[n]?)
    (hin : ∀ n n' b0, m0'[n]? = some b0 → more π m0.length m0'.length m.length n = some n' → ∃ b, m'[n']? = some b ∧ SB inert (more π m0.length m0'.length m.length) b0 b)
    (hv : RN inert (more π m0.length m0'.length m.length) v0 v) (hreal : ∀ k n, π k = some n → m'[n]? = m[n]? ∨ Real m args n) : Con C f args m v m' := by
  have hgr := h.1
  have dec : ∀ n : Nat, (∃ k, π k = some n) ∨ ∀ k, π k ≠ some n := fun n => (Classical.em _).imp id fun h k hk => h ⟨k, hk⟩
  have mlo : ∀ {n n'}, π n = some n' → more π m0.length m0'.length m.length n = some n' := by
    intro n n' h1
    unfold more
    rw [if_pos (S.dom n n' h1)]
    exact h1
  have mhi : ∀ {i}, m0.length + i < m0'.length → more π m0.length m0'.length m.length (m0.length + i) = some (m.length + i) := by
    intro i h1
    unfold more
    rw [if_neg (by omega), if_pos h1]
    simp
  have hlen0 := hgr.len
  refine ⟨⟨by omega, fun n b hb => ?_⟩, h.ok, fun B ι w args' R hGl hB hargs' hF => ?_⟩
  · rcases dec n with ⟨k, hk⟩ | hk
    · have hk0 := S.dom k n hk
      obtain ⟨c, h1, s⟩ := S.blk k n _ (List.getElem?_eq_getElem hk0) hk
      rw [hb] at h1
      cases h1
      obtain ⟨b', h2, h3, h4, h5⟩ := hgr.old k _ (List.getElem?_eq_getElem hk0)
      obtain ⟨b'', h6, s'⟩ := hin k n b' h2 (mlo hk)
      exact ⟨b'', h6, by rw [s'.es, h3, s.es], fun h => by rw [s.own]; exact h4 (by rw [← s'.own]; exact h), fun h => by rw [s.live]; exact h5 (by rw [← s'.live]; exact h)⟩
    · refine ⟨b, ?_, rfl, id, id⟩
      rw [hout n (List.getElem?_eq_some_iff.1 hb).1 hk]
      exact hb
  have viaS : ∀ {n l}, (ι.via π) n = some l → ∃ n', π n = some n' ∧ ι n' = some l := fun h1 => by
    have h1 : (π _).bind ι.loc = some _ := h1
    rw [Option.bind_eq_some_iff] at h1
    exact h1
  have own : ∀ {n l b0}, (ι.via π) n = some l → m0[n]? = some b0 → b0.live = true → b0.own = true → ∃ n' b, π n = some n' ∧ ι n' = some l ∧ m[n']? = some b ∧ b.live = true ∧ b.own = true := by
    intro n l b0 h1 h2 h3 h4
    obtain ⟨n', h5, h6⟩ := viaS h1
    obtain ⟨b, h7, s⟩ := S.blk n n' b0 h2 h5
    exact ⟨n', b, h5, h6, h7, by rw [s.live]; exact h3, by rw [s.own]; exact h4⟩
  have hcall := h.2.2 B (ι.via π) w args' (SimM.rep (fun _ h => h) S R) (by
    intro g hg
    obtain ⟨l, h1, h2⟩ := hGl g hg
    exact ⟨l, by show (π g).bind ι.loc = some l; rw [hG g hg]; exact h1, h2⟩) hB
    (hargs.back (ι := ι) (ι0 := ι.via π) (fun _ h => h) rfl (fun n n' l q1 q2 => by show (π n).bind ι.loc = some l; rw [q1]; exact q2) hargs') (by
    intro n h1 h2
    show (π n).bind ι.loc = none
    cases hp : π n with
    | none => rfl
    | some n' => have := S.dom n n' hp; omega)
  refine hcall.mono ?_
  rintro e w' ⟨v1, ι1, rfl, A, r⟩
  let ι2 : Emb := { fz := ι1.fz, loc := fun n => if n < m.length then ι n else if n < m'.length then ι1 (m0.length + (n - m.length)) else ι n }
  have loc0 : ∀ {n}, n < m.length → ι2 n = ι n := fun h => if_pos h
  have loc1 : ∀ {i}, m.length + i < m'.length → ι2 (m.length + i) = ι1 (m0.length + i) := by
    intro i h
    show (if m.length + i < m.length then _ else if m.length + i < m'.length then ι1 (m0.length + (m.length + i - m.length)) else _) = _
    rw [if_neg (by omega), if_pos h]
    congr 2
    omega
  have keep0 : ∀ {n}, n < m0.length → ι1 n = (ι.via π) n := fun h => A.keep _ (.inl h)
  have hle : ι.le ι2 := by
    refine ⟨fun n l h => ?_, fun g c h => A.fz g c h⟩
    show (if n < m.length then ι n else if n < m'.length then ι1 (m0.length + (n - m.length)) else ι n) = some l
    split
    · exact h
    · split
      · rw [hF n (by omega) (by omega)] at h; cases h
      · exact h
  have hl : ∀ n n' l, more π m0.length m0'.length m.length n = some n' → ι1 n = some l → ι2 n' = some l := by
    intro n n' l h1 h2
    unfold more at h1
    split at h1
    · rename_i hn
      rw [keep0 hn] at h2
      obtain ⟨n1, h3, h4⟩ := viaS h2
      rw [h1] at h3
      cases h3
      exact hle.loc _ _ h4
    · split at h1
      · cases h1
        rw [loc1 (by omega)]
        rename_i h3 _
        rw [show m0.length + (n - m0.length) = n by omega]
        exact h2
      · cases h1
  have hp : ∀ v v', Ab.inert v = true → VR ι1 v v' → VR ι2 v v' := fun v v' h r => VR.fzle (ι := ι1) (ι1 := ι2) (fun _ _ h => h) r h
  have blk : ∀ {n b l}, m'[n]? = some b → ι2 n = some l → (n < m.length ∧ m[n]? = some b ∧ ι n = some l ∧ ∀ k, π k ≠ some n) ∨ ∃ k b0, more π m0.length m0'.length m.length k = some n ∧ m0'[k]? = some b0 ∧ ι1 k = some l ∧ SB inert (more π m0.length m0'.length m.length) b0 b := by
    intro n b l h1 h2
    have hn := (List.getElem?_eq_some_iff.1 h1).1
    rcases Nat.lt_or_ge n m.length with hm | hm
    · rw [loc0 hm] at h2
      rcases dec n with ⟨k, hk⟩ | hk
      · have hk0 := S.dom k n hk
        have hk1 : k < m0'.length := by omega
        obtain ⟨b', h3, s⟩ := hin k n _ (List.getElem?_eq_getElem hk1) (mlo hk)
        rw [h1] at h3
        cases h3
        refine .inr ⟨k, _, mlo hk, List.getElem?_eq_getElem hk1, ?_, s⟩
        rw [keep0 hk0]
        show (π k).bind ι.loc = some l
        rw [hk]
        exact h2
      · exact .inl ⟨hm, by rw [← hout n hm hk]; exact h1, h2, hk⟩
    · obtain ⟨i, rfl⟩ : ∃ i, n = m.length + i := ⟨n - m.length, by omega⟩
      rw [loc1 hn] at h2
      have hk1 : m0.length + i < m0'.length := by omega
      obtain ⟨b', h3, s⟩ := hin _ _ _ (List.getElem?_eq_getElem hk1) (mhi hk1)
      rw [h1] at h3
      cases h3
      exact .inr ⟨_, _, mhi hk1, List.getElem?_eq_getElem hk1, h2, s⟩
  have orig : ∀ {k l b0}, ι1 k = some l → m0'[k]? = some b0 → b0.live = true → w.heap.size ≤ l.g ∨ (∃ n b, π k = some n ∧ ι n = some l ∧ m[n]? = some b ∧ b.live = true ∧ (b0.own = true → b.own = true)) ∨ ∃ j n l0 b, π j = some n ∧ ι n = some l0 ∧ m[n]? = some b ∧ b.live = true ∧ b.own = true ∧ l0.g = l.g := by
    intro k l b0 h1 h2 h3
    rcases Nat.lt_or_ge k m0.length with hk | hk
    · rw [keep0 hk] at h1
      obtain ⟨n, h4, h5⟩ := viaS h1
      obtain ⟨c, h6, _, h7, h8⟩ := A.alive k b0 hk h2
      obtain ⟨b, h9, s⟩ := S.blk k n c h6 h4
      exact .inr (.inl ⟨n, b, h4, h5, h9, by rw [s.live]; exact h8 h3, fun ho => by rw [s.own]; exact h7 ho⟩)
    · rcases A.origin k l b0 hk h1 h2 h3 with h | ⟨j, l0, c, a1, a2, a3, a4, a5⟩
      · exact .inl h
      · obtain ⟨n, b, e0, e1, e2, e3, e4⟩ := own a1 a2 a3 a4
        exact .inr (.inr ⟨j, n, l0, b, e0, e1, e2, e3, e4, a5⟩)
  have hsz : ∀ {n l b}, ι n = some l → m[n]? = some b → b.live = true → l.g < w.heap.size := fun h1 h2 h3 => (R.cells _ _ _ h1 h2 h3).lt
  have still : ∀ {n l b}, ι n = some l → m[n]? = some b → b.live = true → (∀ k, π k ≠ some n) → w'.heap[l.g]? = w.heap[l.g]? := by
    intro n l b h1 h2 h3 h4
    refine A.frame _ (hsz h1 h2 h3) fun j l0 b0 a1 a2 a3 a4 e => ?_
    obtain ⟨n', c, e0, e1, e2, e3, e4⟩ := own a1 a2 a3 a4
    exact R.apart n' n l0 l c b (fun h => by subst h; exact h4 j e0) e1 h1 e2 h2 e3 h3 e4 e
  have sep : ∀ {n l b k l0 b0}, ι n = some l → m[n]? = some b → b.live = true → (∀ k, π k ≠ some n) → ι1 k = some l0 → m0'[k]? = some b0 → b0.live = true → (b.own = true ∨ b0.own = true) → l.g ≠ l0.g := by
    intro n l b k l0 b0 h1 h2 h3 h4 h5 h6 h7 h8 e
    rcases orig h5 h6 h7 with h | ⟨n', b', q1, q2, q3, q4, q5⟩ | ⟨j, n', l1, b', q1, q2, q3, q4, q5, q6⟩
    · have := hsz h1 h2 h3
      omega
    · have hne : n ≠ n' := fun h => by subst h; exact h4 k q1
      rcases h8 with h8 | h8
      · exact R.apart n n' l l0 b b' hne h1 q2 h2 q3 h3 q4 h8 e
      · exact R.apart n' n l0 l b' b hne.symm q2 h1 q3 h2 q4 h3 (q5 h8) e.symm
    · have hne : n ≠ n' := fun h => by subst h; exact h4 j q1
      exact R.apart n' n l1 l b' b hne.symm q2 h1 q3 h2 q4 h3 q5 (q6.trans e.symm)
  refine ⟨v1, ι2, rfl, ?_, hv.forth hp hl v1 r⟩
  refine { len := by omega, keep := ?_, rep := ⟨?_, ?_, ?_, ?_, A.rep.frozen, ?_, ?_⟩, frame := ?_, origin := ?_, alive := ?_, fz := A.fz, ice := ?_, unreal := ?_, os := A.os, tape := A.tape, output := A.output, size := A.size }
  · intro n hn
    show (if n < m.length then ι n else if n < m'.length then ι1 (m0.length + (n - m.length)) else ι n) = ι n
    split
    · rfl
    · rw [if_neg (by omega)]
  · intro n l b h1 h2 h3
    rcases blk h2 h1 with ⟨hn, e1, e2, e3⟩ | ⟨k, b0, e0, e1, e2, s⟩
    · have M := R.cells n l b e2 e1 h3
      exact (M.mono hle).heap (still e2 e1 h3 e3)
    · exact (A.rep.cells k l b0 e2 e1 (by rw [← s.live]; exact h3)).forth hp hl s (by rw [← s.live]; exact h3)
  · intro n n' l l' b b' hne h1 h2 h3 h4 h5 h6 h7
    rcases blk h3 h1 with ⟨hn, e1, e2, e3⟩ | ⟨k, b0, e0, e1, e2, s⟩ <;> rcases blk h4 h2 with ⟨hn', e1', e2', e3'⟩ | ⟨k', b0', e0', e1', e2', s'⟩
    · exact R.apart n n' l l' b b' hne e2 e2' e1 e1' h5 h6 h7
    · exact sep e2 e1 h5 e3 e2' e1' (by rw [← s'.live]; exact h6) (.inl h7)
    · exact fun e => sep e2' e1' h6 e3' e2 e1 (by rw [← s.live]; exact h5) (.inr (by rw [← s.own]; exact h7)) e.symm
    · refine A.rep.apart k k' l l' b0 b0' (fun hk => hne ?_) e2 e2' e1 e1' (by rw [← s.live]; exact h5) (by rw [← s'.live]; exact h6) (by rw [← s.own]; exact h7)
      subst hk
      rw [e0] at e0'
      exact Option.some.inj e0'
  · intro n l b h1 h2 h3 h4
    rcases blk h2 h1 with ⟨hn, e1, e2, e3⟩ | ⟨k, b0, e0, e1, e2, s⟩
    · exact R.base n l b e2 e1 h3 h4
    · exact A.rep.base k l b0 e2 e1 (by rw [← s.live]; exact h3) (by rw [← s.own]; exact h4)
  · intro n l b h1 h2
    rcases blk h2 h1 with ⟨hn, e1, e2, e3⟩ | ⟨k, b0, e0, e1, e2, s⟩
    · exact R.es n l b e2 e1
    · rw [s.es]
      exact A.rep.es k l b0 e2 e1
  · intro n l b h1 h2 h3 h4
    rcases blk h2 h1 with ⟨hn, e1, e2, e3⟩ | ⟨k, b0, e0, e1, e2, s⟩
    · rcases A.ice l.g (R.cold n l b e2 e1 h3 h4) with h | h | ⟨j, l0, c, a1, a2, a3, a4, a5⟩
      · exact h
      · have := hsz e2 e1 h3
        omega
      · obtain ⟨n', c', q0, q1, q2, q3, q4⟩ := own a1 a2 a3 a4
        exact absurd a5 (R.apart n' n l0 l c' b (fun h => by subst h; exact e3 j q0) q1 e2 q2 e1 q3 h3 q4)
    · exact A.rep.cold k l b0 e2 e1 (by rw [← s.live]; exact h3) (by rw [← s.own]; exact h4)
  · intro n l b h1 h2 h3 h4
    rcases blk h2 h1 with ⟨hn, e1, e2, e3⟩ | ⟨k, b0, e0, e1, e2, s⟩
    · obtain ⟨c, hc⟩ := R.kept n l b e2 e1 h3 h4
      exact ⟨c, A.fz _ _ hc⟩
    · exact A.rep.kept k l b0 e2 e1 (by rw [← s.live]; exact h3) (by rw [← s.own]; exact h4)
  · intro g hg hn
    refine A.frame g hg fun n l b0 h1 h2 h3 h4 => ?_
    obtain ⟨n', b, _, e1, e2, e3, e4⟩ := own h1 h2 h3 h4
    exact hn n' l b e1 e2 e3 e4
  · intro n l b hn h1 h2 h3
    rcases blk h2 h1 with ⟨hn', _⟩ | ⟨k, b0, e0, e1, e2, s⟩
    · omega
    · rcases orig e2 e1 (by rw [← s.live]; exact h3) with h | ⟨n', b', q1, q2, q3, q4, q5⟩ | ⟨j, n', l1, b', q1, q2, q3, q4, q5, q6⟩
      · exact .inl h
      · have := mlo q1
        rw [e0] at this
        cases this
        have := (List.getElem?_eq_some_iff.1 q3).1
        omega
      · exact .inr ⟨n', l1, b', q2, q3, q4, q5, q6⟩
  · intro n b hn h1
    rcases dec n with ⟨k, hk⟩ | hk
    · have hk0 := S.dom k n hk
      have hk1 : k < m0'.length := by omega
      obtain ⟨b', h3, s⟩ := hin k n _ (List.getElem?_eq_getElem hk1) (mlo hk)
      rw [h1] at h3
      cases h3
      obtain ⟨c, h4, h5, h6, h7⟩ := A.alive k _ hk0 (List.getElem?_eq_getElem hk1)
      obtain ⟨d, h8, s'⟩ := S.blk k n c h4 hk
      exact ⟨d, h8, by rw [s.es, h5, s'.es], fun h => by rw [s'.own]; exact h6 (by rw [← s.own]; exact h), fun h => by rw [s'.live]; exact h7 (by rw [← s.live]; exact h)⟩
    · rw [hout n hn hk] at h1
      exact ⟨b, h1, rfl, id, id⟩
  · intro g hg
    rcases A.ice g hg with h | h | ⟨j, l0, c, a1, a2, a3, a4, a5⟩
    · exact .inl h
    · exact .inr (.inl h)
    · obtain ⟨n', c', q0, q1, q2, q3, q4⟩ := own a1 a2 a3 a4
      exact .inr (.inr ⟨n', l0, c', q1, q2, q3, q4, a5⟩)
  · intro n hn h1
    rcases dec n with ⟨k, hk⟩ | hk
    · rcases hreal k n hk with h2 | h2
      · exact h2
      · obtain ⟨l, h3⟩ := h2.loc R hargs'
        rw [h1] at h3
        cases h3
    · exact hout n hn hk
end
end Go.Ab
namespace Go.Ab
def Fz (C : Cfg) (f : FuncId) (as : List Value) (v : Value) : Prop := ∃ v0 m2 ns, Con C f as [] v0 m2 ∧ frz 64 m2 v0 = some (v, ns)
section
variable {C : Cfg} {f : FuncId} {args as : List Value} {m m2 : Mem} {v v0 : Value} {ns ns2 : List Nat}
abbrev Spec := FuncId → List Value → Option (Prop × Value)
def SpecOK (C : Cfg) (K : Spec) : Prop := ∀ f as P v, K f as = some (P, v) → P → Fz C f as v
abbrev Spec3 := FuncId → List Value → Mem → Option (Prop × Value × Mem)
def Spec3OK (C : Cfg) (K3 : Spec3) : Prop := ∀ f args m P v m', K3 f args m = some (P, v, m') → P → Con C f args m v m'
end
def RunF (C : Cfg) (fn : Func) (todo : List Item) (T : Tm) (m : Mem) (v : Value) : Prop := ∃ v0 m' ns, Run C 0 fn todo T m v0 m' ∧ frz 64 m' v0 = some (v, ns)
section
variable {C : Cfg} {f : FuncId} {g : Func} {c : Code} {args : List Value} {v : Value}
end
def fixd : Value → Bool
  | .bool _ | .int _ _ | .string _ | .nilFunc | .pointer none | .iface _ _ => true
  | _ => false
def AllP : List Prop → Prop
  | [] => True
  | [p] => p
  | p :: q :: ps => p ∧ AllP (q :: ps)
theorem AllP.cons {p : Prop} {ps : List Prop} (h : AllP (p :: ps)) : p ∧ AllP ps := by
  cases ps with
  | nil => exact ⟨h, trivial⟩
  | cons q qs => exact h
end Go.Ab
namespace Go.Ab
def Sub (T T' : Tm) : Prop := ∀ t v, T.lookup t = some v → T'.lookup t = some v
section
variable {C : Cfg} {T T' : Tm} {m : Mem}
theorem Run.mono {k : Nat} {fn : Func} {todo : List Item} {v : Value} {m' : Mem} (h : Sub T T') (r : Run C k fn todo T m v m') : Run C k fn todo T' m v m' :=
  fun B ι w a b cs R hG hB hT ht hk hN hd => r B ι w a b cs R hG hB (fun t v hv => hT t v (h t v hv)) ht hk hN hd
theorem RunF.mono {fn : Func} {todo : List Item} {v : Value} (h : Sub T T') (r : RunF C fn todo T m v) : RunF C fn todo T' m v := by
  obtain ⟨v0, m', ns, h1, h2⟩ := r
  exact ⟨v0, m', ns, h1.mono h, h2⟩
end
end Go.Ab
namespace Go.Ab
def intOf : Value → Int
  | .int _ n => n
  | _ => 0
def boolOf : Value → Bool
  | .bool b => b
  | _ => false
def strOf : Value → ByteArray
  | .string s => s
  | _ => .empty
def lenS : Value → Nat
  | .iface n _ => n
  | _ => 0
def cellsS : Value → List Value
  | .iface _ (.agg cs) => cs.toList
  | _ => []
def byteOf (v : Value) : UInt8 := UInt8.ofNat (intOf v).toNat
section
variable (C : Cfg) (K : Spec) (K3 : Spec3) (O : List FuncId)
def isNil : Value → Value → Bool
  | .slice none 0 0, .slice none _ _ => true
  | .slice none 0 0, .iface 0 (.agg _) => true
  | _, _ => false
end
section
variable {C : Cfg} {K : Spec} {K3 : Spec3} {O : List FuncId} {T : Tm} {m : Mem}
end
end Go.Ab
