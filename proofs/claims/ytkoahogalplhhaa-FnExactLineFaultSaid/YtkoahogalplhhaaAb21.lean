/- Part of an own evaluator of Go code on numbered blocks, and of the proof that the machine does what it says; each theorem carries its own conditions. -/
import Derived.Test.YtkoahogalplhhaaAb17
set_option linter.unusedVariables false
set_option linter.unusedSimpArgs false
namespace Go.Ab

/-! ## Runs of the machine, told by the evaluator's values -/

/-- What a piece of code leaves, as far as the first k blocks go. -/
structure AfterK (B k : Nat) (ι : Emb) (m : Mem) (w : World) (ι' : Emb) (m' : Mem) (w' : World) : Prop where
  len : k ≤ m'.length
  keep : ∀ n, n < k → ι' n = ι n
  tight : ∀ n, m'.length ≤ n → ι' n = none
  rep : Rep B ι' m' w'
  frame : ∀ g, g < w.heap.size → (∀ n l b, ι n = some l → m[n]? = some b → b.live = true → b.own = true → l.g ≠ g) → w'.heap[g]? = w.heap[g]?
  origin : ∀ n l b, k ≤ n → ι' n = some l → m'[n]? = some b → b.live = true →
    w.heap.size ≤ l.g ∨ (∃ j l0 b0, ι j = some l0 ∧ m[j]? = some b0 ∧ b0.live = true ∧ b0.own = true ∧ l0.g = l.g) ∨ (∃ j l0 b0, k ≤ j ∧ ι j = some l0 ∧ m[j]? = some b0 ∧ b0.live = true ∧ l0.g = l.g)
  alive : ∀ (n : Nat) b', n < k → m'[n]? = some b' → ∃ b, m[n]? = some b ∧ b'.es = b.es ∧ (b'.own = true → b.own = true) ∧ (b'.live = true → b.live = true)
  fz : ∀ g c, ι.fz g = some c → ι'.fz g = some c
  ice : ∀ g, ι.fz g = none → ι'.fz g = none ∨ w.heap.size ≤ g ∨ ∃ n l b, ι n = some l ∧ m[n]? = some b ∧ b.live = true ∧ b.own = true ∧ l.g = g
  unreal : ∀ (n : Nat), n < k → ι n = none → m'[n]? = m[n]?
  os : w'.os = w.os
  tape : w'.tape = w.tape
  output : w'.output = w.output
  size : w.heap.size ≤ w'.heap.size

def Tight (ι : Emb) (m : Mem) : Prop := ∀ n, m.length ≤ n → ι n = none

section
variable {C : Cfg} {B k : Nat} {ι ι1 ι2 : Emb} {m m1 m2 : Mem} {w w1 w2 : World}

theorem AfterK.refl (R : Rep B ι m w) (ht : Tight ι m) (hk : k ≤ m.length) : AfterK B k ι m w ι m w where
  len := hk
  keep _ _ := rfl
  tight := ht
  rep := R
  frame _ _ _ := rfl
  origin n l b h1 h2 h3 h4 := .inr (.inr ⟨n, l, b, h1, h2, h3, h4, rfl⟩)
  alive n b' _ h := ⟨b', h, rfl, id, id⟩
  fz _ _ h := h
  ice _ h := .inl h
  unreal _ _ _ := rfl
  os := rfl
  tape := rfl
  output := rfl
  size := Nat.le_refl _

theorem AfterK.step (h1 : After B ι m w ι1 m1 w1) (hk : k ≤ m.length) (h2 : AfterK B k ι1 m1 w1 ι2 m2 w2) : AfterK B k ι m w ι2 m2 w2 where
  len := h2.len
  keep n h := by rw [h2.keep n h, h1.keep n (.inl (by omega))]
  tight := h2.tight
  rep := h2.rep
  frame g hg hn := by
    rw [h2.frame g (Nat.lt_of_lt_of_le hg h1.size) ?_, h1.frame g hg hn]
    intro n l b hl hb hv ho
    rcases Nat.lt_or_ge n m.length with hlt | hge
    · obtain ⟨b0, e0, _, e1, e2⟩ := h1.alive n b hlt hb
      rw [h1.keep n (.inl hlt)] at hl
      exact hn n l b0 hl e0 (e2 hv) (e1 ho)
    · rcases h1.origin n l b hge hl hb hv with h | ⟨k, l0, b0, a1, a2, a3, a4, a5⟩
      · omega
      · rw [← a5]; exact hn k l0 b0 a1 a2 a3 a4
  origin n l b hn hl hb hv := by
    rcases h2.origin n l b hn hl hb hv with h | ⟨j, l0, b0, a1, a2, a3, a4, a5⟩ | ⟨j, l0, b0, a0, a1, a2, a3, a5⟩
    · exact .inl (Nat.le_trans h1.size h)
    · rcases Nat.lt_or_ge j m.length with hj | hj
      · obtain ⟨c0, e0, _, e1, e2⟩ := h1.alive j b0 hj a2
        rw [h1.keep j (.inl hj)] at a1
        exact .inr (.inl ⟨j, l0, c0, a1, e0, e2 a3, e1 a4, a5⟩)
      · rcases h1.origin j l0 b0 hj a1 a2 a3 with h | ⟨k', l', b', c1, c2, c3, c4, c5⟩
        · exact .inl (by omega)
        · exact .inr (.inl ⟨k', l', b', c1, c2, c3, c4, c5.trans a5⟩)
    · rcases Nat.lt_or_ge j m.length with hj | hj
      · obtain ⟨c0, e0, _, e1, e2⟩ := h1.alive j b0 hj a2
        rw [h1.keep j (.inl hj)] at a1
        exact .inr (.inr ⟨j, l0, c0, a0, a1, e0, e2 a3, a5⟩)
      · rcases h1.origin j l0 b0 hj a1 a2 a3 with h | ⟨k', l', b', c1, c2, c3, c4, c5⟩
        · exact .inl (by omega)
        · exact .inr (.inl ⟨k', l', b', c1, c2, c3, c4, c5.trans a5⟩)
  alive n b' hn hb := by
    obtain ⟨b1, e0, e1, e2, e3⟩ := h2.alive n b' hn hb
    obtain ⟨b, d0, d1, d2, d3⟩ := h1.alive n b1 (by omega) e0
    exact ⟨b, d0, e1.trans d1, fun h => d2 (e2 h), fun h => d3 (e3 h)⟩
  fz g c h := h2.fz g c (h1.fz g c h)
  ice g hg := by
    rcases h1.ice g hg with h | h
    · rcases h2.ice g h with h' | h' | ⟨n, l, b, a1, a2, a3, a4, a5⟩
      · exact .inl h'
      · exact .inr (.inl (Nat.le_trans h1.size h'))
      · rcases Nat.lt_or_ge n m.length with hn | hn
        · obtain ⟨c0, e0, _, e1, e2⟩ := h1.alive n b hn a2
          rw [h1.keep n (.inl hn)] at a1
          exact .inr (.inr ⟨n, l, c0, a1, e0, e2 a3, e1 a4, a5⟩)
        · rcases h1.origin n l b hn a1 a2 a3 with h' | ⟨k', l', b', c1, c2, c3, c4, c5⟩
          · exact .inr (.inl (by omega))
          · exact .inr (.inr ⟨k', l', b', c1, c2, c3, c4, c5.trans a5⟩)
    · exact .inr h
  unreal n hn h := by
    rw [h2.unreal n hn (by rw [h1.keep n (.inl (by omega))]; exact h), h1.unreal n (by omega) h]
  os := h2.os.trans h1.os
  tape := h2.tape.trans h1.tape
  output := h2.output.trans h1.output
  size := Nat.le_trans h1.size h2.size

/-- A run of the machine from here to the end of the function. -/
def Run (C : Cfg) (k : Nat) (fn : Func) (todo : List Item) (T : Tm) (m : Mem) (v : Value) (m' : Mem) : Prop :=
  ∀ (B : Nat) (ι : Emb) (w : World) (a : Act) (b : Frame) (cs : List Frame), Rep B ι m w → GlobOK C ι → B ≤ w.heap.size → TR ι T a.tmps → Tight ι m → k ≤ m.length → fn.ntmps ≤ a.tmps.size → a.defers = [] →
    ∃ w' fr ι' v', Steps C.P (lone (b.at a todo) cs w) (lone fr cs w') ∧ fr.fn = b.fn ∧ fr.kind = b.kind ∧ fr.mode = .returning ∧ fr.defers = [] ∧ (results fn fr.tmps).run C.P w' = .ok v' w' ∧ AfterK B k ι m w ι' m' w' ∧ VR ι' v v'

variable {fn : Func} {r : List Item} {T : Tm} {v : Value} {m' : Mem}

theorem Run.go {todo todo' : List Item} (hst : ∀ (ι : Emb) (w : World) (a : Act) (b : Frame) (cs : List Frame), TR ι T a.tmps → GlobOK C ι → _root_.Go.step C.P (lone (b.at a todo) cs w) = .next (lone (b.at a todo') cs w))
    (h : Run C k fn todo' T m v m') : Run C k fn todo T m v m' := by
  intro B ι w a b cs R hG hB hT ht hk hN hd
  obtain ⟨w', fr, ι', v', q1, rest⟩ := h B ι w a b cs R hG hB hT ht hk hN hd
  exact ⟨w', fr, ι', v', .head (hst ι w a b cs hT hG) q1, rest⟩

theorem Run.fin (hC : CfgOK C) {todo : List Item} (hr : resultA C fn m T = some v)
    (hst : ∀ (w : World) (a : Act) (b : Frame) (cs : List Frame), ∃ fr, Steps C.P (lone (b.at a todo) cs w) (lone fr cs w) ∧ fr.fn = b.fn ∧ fr.kind = b.kind ∧ fr.mode = .returning ∧ fr.defers = a.defers ∧ fr.tmps = a.tmps) : Run C k fn todo T m v m := by
  intro B ι w a b cs R hG hB hT ht hk hN hd
  obtain ⟨v', r, hv⟩ := resultA_sound hC R hT hr
  obtain ⟨fr, hs, e1, e2, e3, e4, e5⟩ := hst w a b cs
  exact ⟨w, fr, ι, v', hs, e1, e2, e3, e4.trans hd, by rw [e5]; exact hv, .refl R ht hk, r⟩

theorem Run.end (hC : CfgOK C) (hr : resultA C fn m T = some v) : Run C k fn [] T m v m :=
  .fin hC hr fun _ _ _ _ => ⟨_, .one step_end, rfl, rfl, rfl, rfl, rfl⟩
theorem Run.ret (hC : CfgOK C) (hr : resultA C fn m T = some v) : Run C k fn (.code .ret :: r) T m v m :=
  .fin hC hr fun _ _ _ _ => ⟨_, .one step_ret, rfl, rfl, rfl, rfl, rfl⟩
theorem Run.inBlock {id : Nat} (h : Run C k fn r T m v m') : Run C k fn (.inBlock id :: r) T m v m' := .go (fun _ _ _ _ _ _ _ => step_inBlock) h
theorem Run.inLoop {c : Code} (h : Run C k fn (.code c :: .inLoop c :: r) T m v m') : Run C k fn (.inLoop c :: r) T m v m' := .go (fun _ _ _ _ _ _ _ => step_inLoop) h
theorem Run.skip (h : Run C k fn r T m v m') : Run C k fn (.code .skip :: r) T m v m' := .go (fun _ _ _ _ _ _ _ => step_skip) h
theorem Run.seq {a b : Code} (h : Run C k fn (.code a :: .code b :: r) T m v m') : Run C k fn (.code (.seq a b) :: r) T m v m' := .go (fun _ _ _ _ _ _ _ => step_seq) h
theorem Run.block {id : Nat} {c : Code} (h : Run C k fn (.code c :: .inBlock id :: r) T m v m') : Run C k fn (.code (.block id c) :: r) T m v m' := .go (fun _ _ _ _ _ _ _ => step_block) h
theorem Run.loop {c : Code} (h : Run C k fn (.code c :: .inLoop c :: r) T m v m') : Run C k fn (.code (.loop c) :: r) T m v m' := .go (fun _ _ _ _ _ _ _ => step_loop) h
theorem Run.exit {id : Nat} {r' : List Item} (he : exitTo id r = some r') (h : Run C k fn r' T m v m') : Run C k fn (.code (.exit id) :: r) T m v m' := .go (fun _ _ _ _ _ _ _ => step_exit he) h
theorem Run.tt {c : Operand} {a b : Code} (hc : ev C T c = some (.bool true)) (h : Run C k fn (.code a :: r) T m v m') : Run C k fn (.code (.cond c a b) :: r) T m v m' := .go (fun ι w x _ _ hT hG => by
  have r := ev_sound (a := x) hT hG hc
  generalize hx : x.eval _ = y at r
  cases r
  exact step_cond (t := true) hx) h
theorem Run.ff {c : Operand} {a b : Code} (hc : ev C T c = some (.bool false)) (h : Run C k fn (.code b :: r) T m v m') : Run C k fn (.code (.cond c a b) :: r) T m v m' := .go (fun ι w x _ _ hT hG => by
  have r := ev_sound (a := x) hT hG hc
  generalize hx : x.eval _ = y at r
  cases r
  exact step_cond (t := false) hx) h
theorem Run.cond {c : Operand} {a b : Code} {t : Bool} (hc : ev C T c = some (.bool t)) (h1 : t = true → Run C k fn (.code a :: r) T m v m') (h2 : t = false → Run C k fn (.code b :: r) T m v m') : Run C k fn (.code (.cond c a b) :: r) T m v m' := by
  cases t with
  | true => exact .tt hc (h1 rfl)
  | false => exact .ff hc (h2 rfl)

theorem Run.region (hC : CfgOK C) {call : CallF} (hcall : CallOK C call) {id : Nat} {ops : Array Oper} {draw : Bool} {T1 : Tm} {m1 : Mem} (hreg : aRegion C call fn.ntmps ops.toList draw T m = some (T1, m1))
    (h : Run C k fn r T1 m1 v m') : Run C k fn (.code (.region id ops draw) :: r) T m v m' := by
  intro B ι w a b cs R hG hB hT ht hk hN hd
  have hgr : Grow m m1 := by
    have hreg' := hreg
    unfold aRegion at hreg'
    split at hreg'
    · split at hreg'
      · cases hreg'
      · rename_i E T2 m2 ha
        have := aOps_grows (call_grow hcall) ha
        split at hreg'
        · split at hreg'
          · cases hreg'; exact this
          · cases hreg'
        · cases hreg'; exact this
    · cases hreg'
  have hF1 : Free ι m.length m1.length := fun n h1 _ => ht n h1
  have hreg2 := region_goes hC hcall hreg R hB hT hG hF1 hN id (fun e a' w' => e = .normal ∧ Behind B ι m w a T1 m1 a' w') (fun a' w' hb => ⟨rfl, hb⟩)
  obtain ⟨e, a', w1, ⟨rfl, ι1, A, hT1, hd1, hs1⟩, harr⟩ := hreg2 b _ cs
  obtain ⟨w', fr, ι', v', q1, q2, q3, q4, q5, q6, q7, q8⟩ := h B ι1 w1 a' b cs A.rep (hG.mono (A.le hF1)) (Nat.le_trans hB A.size) hT1 (fun n h1 => by
    rw [A.keep n (.inr h1)]
    exact ht n (Nat.le_trans hgr.len h1)) (Nat.le_trans hk hgr.len) (by rw [hs1]; exact hN) (hd1.trans hd)
  exact ⟨w', fr, ι', v', Steps.trans harr q1, q2, q3, q4, q5, q6, .step A hk q7, q8⟩
end
end Go.Ab
