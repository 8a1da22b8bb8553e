/- Part of an own evaluator of Go code on numbered blocks, and of the proof that the machine does what it says; each theorem carries its own conditions. -/
import Derived.Test.YtkoahogalplhhaaAb27
set_option linter.unusedVariables false
set_option linter.unusedSimpArgs false
namespace Go.Ab

/-! ## One operation, with what has to be shown told apart -/

def intOf : Value → Int
  | .int _ n => n
  | _ => 0
def boolOf : Value → Bool
  | .bool b => b
  | _ => false
def strOf : Value → ByteArray
  | .string s => s
  | _ => .empty
def lenS : Value → Nat
  | .iface n _ => n
  | _ => 0
def cellsS : Value → List Value
  | .iface _ (.agg cs) => cs.toList
  | _ => []
def byteOf (v : Value) : UInt8 := UInt8.ofNat (intOf v).toNat

def hard1 : Value → Bool
  | .bool _ | .int _ _ | .string _ | .nilFunc | .pointer none | .slice none 0 0 => true
  | _ => false

theorem hard1_hard {v : Value} (h : hard1 v = true) : hard v = true := by
  unfold hard1 at h
  split at h <;> first | rfl | cases h

/-- What is not known has no names. -/
def hardV : Nat → Value → Bool
  | 0, _ => false
  | k + 1, .agg cs => cs.toList.all (hardV k)
  | k + 1, .tuple cs => cs.toList.all (hardV k)
  | _ + 1, v => hard1 v

def nameless : Nat → Value → Bool
  | 0, _ => false
  | k + 1, .agg cs => cs.toList.all (nameless k)
  | k + 1, .tuple cs => cs.toList.all (nameless k)
  | _ + 1, v => fixd v || (match v with
    | .slice none 0 0 => true
    | .func _ a b => a.size == 0 && b.size == 0
    | _ => false)

section
variable (C : Cfg) (K : Spec) (L : List Inst)

/-- A cell of a type, as its parts. -/
def nf (raw : Bool) (t : Nat) (x : Value) : Option Value :=
  match (C.ty t).d with
  | .int k => some (.int k (intOf x))
  | .bool => some (.bool (boolOf x))
  | .str => some (.string (strOf x))
  | .slice _ => if raw = true then some x else some (roS (lenS x) (cellsS x))
  | .struct _ => none
  | .tuple => none
  | .other => none
  | _ => some x

def flatT : Nat → Nat → List Nat
  | 0, _ => []
  | k + 1, t => match (C.ty t).d with
    | .struct fs => fs.flatMap fun p => flatT k p.2
    | _ => [t]

def nfL (raw : Bool) : List Nat → Nat → List Value → Option (List Value)
  | [], _, _ => some []
  | t :: ts, i, cs => match nf C raw t (cs.getD i .nilFunc) with
    | none => none
    | some y => match nfL raw ts (i + 1) cs with
      | none => none
      | some ys => some (y :: ys)

def loadS (raw : Bool) (t : Nat) (cs : List Value) : Option (List Prop × Value) :=
  match (C.ty t).d with
  | .other => none
  | .struct _ => match nfL C raw (flatT C 8 t) 0 cs with
    | some ys => if ys.length = (C.ty t).size then some ([cs.take (C.ty t).size = ys], .agg ys.toArray) else none
    | none => none
  | _ => match nf C raw t (cs.getD 0 .nilFunc) with
    | some y => some ([cs.take 1 = [y]], y)
    | none => none

def boundS (v : Option (Option Value)) (dflt : Nat) : Option (List Prop × Nat) :=
  match v with
  | none => some ([], dflt)
  | some (some (.int _ i)) => some ([0 ≤ i], i.toNat)
  | _ => none

def sliceS (es : Nat → Option Nat) (t : Nat) (x : Value) (lo hi : Option (Option Value)) : Option (List Prop × Value) :=
  match (C.ty t).d, x with
  | .str, .string s => match boundS lo 0, boundS hi s.size with
    | some (p, l), some (q, h) => some (p ++ q ++ [l ≤ h ∧ h ≤ s.size], .string (s.extract l h))
    | _, _ => none
  | .slice e, .slice (some ⟨n, o, none⟩) len cap => match (C.ty e).d with
    | .other => none
    | _ => match boundS lo 0, boundS hi len with
      | some (p, l), some (q, h) => if es n = some (C.ty e).size then some (p ++ q ++ [l ≤ h ∧ h ≤ cap], .slice (some ⟨n, if cap = l then o else o + l * (C.ty e).size, none⟩) (h - l) (cap - l)) else none
      | _, _ => none
  | .slice e, .iface len (.agg cs) => match (C.ty e).d with
    | .other => none
    | _ => match boundS lo 0, boundS hi len with
      | some (p, l), some (q, h) => some (p ++ q ++ [l ≤ h ∧ h ≤ len], roS (h - l) ((cs.toList.drop (l * (C.ty e).size)).take ((h - l) * (C.ty e).size)))
      | _, _ => none
  | _, _ => none

def indexAddrS (t : Nat) (x i : Value) : Option (List Prop × Value) :=
  match (C.ty t).d, x, i with
  | .slice e, .slice (some a) len _, .int _ j =>
    match (C.ty e).d with
    | .other => none
    | _ => some ([0 ≤ j ∧ j < len], .pointer (some ⟨a.block, a.off + j.toNat * (C.ty e).size, none⟩))
  | .slice e, .iface len (.agg cs), .int _ j =>
    match (C.ty e).d with
    | .other => none
    | _ => some ([0 ≤ j ∧ j < len], roP ((cs.toList.drop (j.toNat * (C.ty e).size)).take (C.ty e).size))
  | _, _, _ => none

def binS (op : BinOp) (t : Nat) (x y : Value) : Option (List Prop × Value) :=
  match op, x, y with
  | .quo, .int k a, .int k' b => if k = k' then some ([b ≠ 0], .int k (k.wrap (a.tdiv b))) else none
  | .rem, .int k a, .int k' b => if k = k' then some ([b ≠ 0], .int k (a.tmod b)) else none
  | .shl, .int k a, .int _ b => some ([0 ≤ b], .int k (k.wrap (a * 2 ^ min b.toNat k.bits)))
  | .shr, .int k a, .int _ b => some ([0 ≤ b], .int k (a.fdiv (2 ^ min b.toNat k.bits)))
  | .add, .string a, .string b => some ([a.size + b.size ≤ 4611686018427387904], .string (a ++ b))
  | op, x, y => match bop C op t x y with
    | some v => some ([], v)
    | none => none

/-- Operations that neither read nor write memory. -/
def spv (es : Nat → Option Nat) (T : Tm) (o : Oper) : Option (List Prop × Value) :=
  match o.op with
  | .binOp op t x y _ => match ev C T x, ev C T y with
    | some a, some b => binS C op t a b
    | _, _ => none
  | .indexAddr t x i => match ev C T x, ev C T i with
    | some a, some j => indexAddrS C t a j
    | _, _ => none
  | .index t x i => match (C.ty t).d, ev C T x, ev C T i with
    | .str, some (.string s), some (.int _ j) => some ([0 ≤ j ∧ j.toNat < s.size], .int .u8 ((s[j.toNat]?).getD 0).toNat)
    | _, _, _ => none
  | .slice t x lo hi none => match ev C T x with
    | some a => sliceS C es t a (lo.map (ev C T)) (hi.map (ev C T))
    | none => none
  | _ => match pv C es T o with
    | some v => some ([], v)
    | none => none

def sav (name : Nat) (T : Tm) (o : Oper) : Option (List Prop × Value × Blk) :=
  match o.op with
  | .makeSlice t l c => match (C.ty t).d, ev C T l, ev C T c with
    | .slice e, some (.int .i64 l), some (.int .i64 c) => match (C.ty e).d with
      | .other => none
      | _ => some ([0 ≤ l ∧ l ≤ c ∧ c * (C.ty e).bytes ≤ 281474976710656 ∧ c ≤ 281474976710656], .slice (some ⟨name, 0, none⟩) l.toNat c.toNat, ⟨(List.replicate c.toNat (C.ty e).zero).flatten, (C.ty e).size, true, true⟩)
    | _, _, _ => none
  | _ => match av C name T o with
    | some (v, b) => some ([], v, b)
    | none => none

def srv (m : Mem) (T : Tm) (o : Oper) : Option (List Prop × Option Nat × Value) :=
  match o.op with
  | .load t a => match ev C T a with
    | some (.pointer (some p)) => match m[p.block]? with
      | some b => if b.live = true then match loadS C true t (b.cells.drop p.off) with
          | some (ps, v) => some (ps, some p.block, v)
          | none => none
        else none
      | none => none
    | some (.iface 0 (.tuple cs)) => match loadS C false t cs.toList with
      | some (ps, v) => some (ps, none, v)
      | none => none
    | _ => none
  | .convert src dst x => match (C.ty src).d, (C.ty dst).d, ev C T x with
    | .slice e, .str, some (.slice (some p) len _) => match (C.ty e).d with
      | .int .u8 => match m[p.block]? with
        | some b => if b.live = true then some ([p.off + len ≤ b.cells.length ∧ bytesOf ((b.cells.drop p.off).take len) = some (((b.cells.drop p.off).take len).map byteOf)], some p.block, .string ⟨(((b.cells.drop p.off).take len).map byteOf).toArray⟩) else none
        | none => none
      | _ => none
    | .slice e, .str, some (.iface len (.agg cs)) => match (C.ty e).d with
      | .int .u8 => some ([cs.size = len ∧ bytesOf cs.toList = some (cs.toList.map byteOf)], none, .string ⟨(cs.toList.map byteOf).toArray⟩)
      | _ => none
    | _, _, _ => match rv C m T o with
      | some (n, v) => some ([], n, v)
      | none => none
  | _ => none

def storeS (m : Mem) (t : Nat) (a x : Value) : Option (List Prop × Mem) :=
  match (C.ty t).d, a with
  | .other, _ => none
  | _, .pointer (some p) => if x.cells.size = (C.ty t).size ∧ x.cells.toList.all flat = true ∧ (C.ty t).size ≠ 0 then
      match m[p.block]? with
      | some b => if b.live = true ∧ b.own = true then some ([p.off + x.cells.toList.length ≤ b.cells.length], m.set p.block { b with cells := splice b.cells p.off x.cells.toList }) else none
      | none => none
    else none
  | _, _ => none

/-- What an append appends: the cells, how many elements. -/
def newS (m : Mem) (xt es : Nat) (x : Value) : Option (List Prop × List Value × Nat) :=
  match (C.ty xt).d, x with
  | .slice _, .slice none _ _ => some ([], [], 0)
  | .slice _, .slice (some p) len _ => match m[p.block]? with
    | some b => if b.live = true then some ([p.off + len * es ≤ b.cells.length], (b.cells.drop p.off).take (len * es), len) else none
    | none => none
  | .slice _, .iface len (.agg cs) => some ([cs.size = len * es], cs.toList, len)
  | .str, .string s => if es = 1 then some ([], ofBytes s, s.size) else none
  | _, _ => none

def appendS (m : Mem) (es bytes : Nat) (s : Value) (cs : List Value) (k : Nat) : Option (List Prop × Value × Mem) :=
  match s with
  | .slice none 0 0 => some ([0 < k ∧ k * bytes ≤ 140737488355328 ∧ k ≤ 140737488355328], .slice (some ⟨m.length, 0, none⟩) k k, m ++ [⟨cs, es, true, true⟩])
  | .slice (some p) len _ => match m[p.block]? with
    | some b =>
      if b.live = true ∧ b.own = true ∧ b.es = es then
        some ([p.off + len * es ≤ b.cells.length ∧ (len + k) * bytes ≤ 140737488355328 ∧ len + k ≤ 140737488355328], .slice (some ⟨m.length, 0, none⟩) (len + k) (len + k), (m.set p.block { b with live := false }) ++ [⟨(b.cells.drop p.off).take (len * es) ++ cs, es, true, true⟩])
      else none
    | none => none
  | _ => none

/-- Nothing is appended to nothing. -/
def isNil : Value → Value → Bool
  | .slice none 0 0, .slice none _ _ => true
  | _, _ => false

/-- Operations that may change memory; whether they may. -/
def swv (m : Mem) (T : Tm) (o : Oper) : Option (List Prop × Value × Mem × Bool) :=
  match o.op with
  | .store t a x => match ev C T a, ev C T x with
    | some p, some v => match storeS C m t p v with
      | some (ps, m') => some (ps, .tuple #[], m', true)
      | none => none
    | _, _ => none
  | .call c => match c.callee, evL C T c.args.toList with
    | .builtin .append, some [s, x] => match c.argTypes[0]?, c.argTypes[1]? with
      | some t, some xt => if isNil s x = true then (match appendOf C m t xt s x with
          | some (v, m') => some ([], v, m', true)
          | none => none) else match (C.ty t).d with
        | .slice e => match (C.ty e).d with
          | .other => none
          | _ => match newS C m xt (C.ty e).size x with
            | none => none
            | some (p, cs, k) => match appendS m (C.ty e).size (C.ty e).bytes s cs k with
              | some (q, v, m') => some (p ++ q, v, m', true)
              | none => none
        | _ => none
      | _, _ => none
    | .value f, some vs => match ev C T f with
      | some (.func (.func g) first captured) => match L.find? (fun i => i.f == g) with
        | some i => some ([first.toList ++ vs ++ captured.toList = i.args, m = i.m], i.v, i.m', true)
        | none => match mapS (sfrz 64 m) (first.toList ++ vs ++ captured.toList) with
          | some (p, as) => match K g as with
            | some (P, v) => if (first.toList ++ vs ++ captured.toList).all (nameless 4) = true ∨ hardV 4 v = true then some (p ++ [P], v, m, false) else none
            | none => none
          | none => none
      | _ => none
    | _, _ => match wv C (fun _ _ _ => none) m T o with
      | some (v, m') => some ([], v, m', true)
      | none => none
  | _ => none

def sOp (T : Tm) (m : Mem) (o : Oper) : Option (List Prop × Value × Mem × Option Nat × Bool) :=
  match cls C o with
  | .pure => match spv C (esOf m) T o with
    | some (p, v) => some (p, v, m, none, false)
    | none => none
  | .alloc => match sav C m.length T o with
    | some (p, v, b) => some (p, v, m ++ [b], none, false)
    | none => none
  | .read => match srv C m T o with
    | some (p, n, v) => some (p, v, m, n, false)
    | none => none
  | .eff => match swv C K L m T o with
    | some (p, v, m', ch) => some (p, v, m', none, ch)
    | none => none
end

section
variable {C : Cfg} {K : Spec} {L : List Inst} {T : Tm} {m : Mem}

theorem nf_struct {raw : Bool} {t : Nat} {x : Value} {fs : List (Nat × Nat)} (h : (C.ty t).d = .struct fs) : nf C raw t x = none := by
  unfold nf; rw [h]

theorem boundS_sound {v : Option (Option Value)} {d n : Nat} {p : List Prop} (h : boundS v d = some (p, n)) (hp : AllP p) : boundOf v d = some n := by
  unfold boundS at h
  unfold boundOf
  split at h
  · cases h; rfl
  · cases h
    have : (0 : Int) ≤ _ := hp.singl
    simp [this]
  · cases h

theorem sliceS_sound {es : Nat → Option Nat} {t : Nat} {x : Value} {lo hi : Option (Option Value)} {p : List Prop} {v : Value} (h : sliceS C es t x lo hi = some (p, v)) (hp : AllP p) : sliceOf C es t x lo hi = some v := by
  unfold sliceS at h
  unfold sliceOf
  split at h
  · rename_i h0
    simp only [h0]
    split at h
    · rename_i q1 q2
      cases h
      have h1 := hp.append
      have h2 := h1.1.append
      rw [boundS_sound q1 h2.1, boundS_sound q2 h2.2]
      simp only
      rw [if_pos h1.2.singl]
    · cases h
  · rename_i e n o len cap h0
    simp only [h0]
    split at h
    · cases h
    · rename_i hd
      split at h
      · rename_i p1 l p2 hh q1 q2
        split at h
        · rename_i hes
          cases h
          have h1 := hp.append
          have h2 := h1.1.append
          have : sliceIn es (C.ty e).size (some ⟨n, o, none⟩) len cap lo hi = some (.slice (some ⟨n, if cap = l then o else o + l * (C.ty e).size, none⟩) (hh - l) (cap - l)) := by
            unfold sliceIn
            rw [boundS_sound q1 h2.1, boundS_sound q2 h2.2]
            simp only
            rw [if_pos h1.2.singl, if_pos hes]
            by_cases hc : cap = l
            · rw [if_pos hc, if_pos hc]
            · rw [if_neg hc, if_neg hc]
          rw [this]
          split
          · rename_i hx; exact absurd hx hd
          · rfl
        · cases h
      · cases h
  · rename_i e len cs h0
    simp only [h0]
    split at h
    · cases h
    · rename_i hd
      split at h
      · rename_i p1 l p2 hh q1 q2
        cases h
        have h1 := hp.append
        have h2 := h1.1.append
        have : roPart (C.ty e).size len cs lo hi = some (roS (hh - l) ((cs.toList.drop (l * (C.ty e).size)).take ((hh - l) * (C.ty e).size))) := by
          unfold roPart
          rw [boundS_sound q1 h2.1, boundS_sound q2 h2.2]
          simp only
          rw [if_pos h1.2.singl]
        rw [this]
        split
        · rename_i hx; exact absurd hx hd
        · rfl
      · cases h
  · cases h

theorem indexAddrS_sound {t : Nat} {x i : Value} {p : List Prop} {v : Value} (h : indexAddrS C t x i = some (p, v)) (hp : AllP p) : indexAddrOf C t x i = some v := by
  unfold indexAddrS at h
  unfold indexAddrOf
  split at h
  · rename_i h0
    simp only [h0]
    split at h
    · cases h
    · rename_i hd
      cases h
      have h1 := hp.singl
      split
      · rename_i hx; exact absurd hx hd
      · rw [if_pos h1]
  · rename_i h0
    simp only [h0]
    split at h
    · cases h
    · rename_i hd
      cases h
      have h1 := hp.singl
      split
      · rename_i hx; exact absurd hx hd
      · rw [if_pos h1]
  · cases h

theorem binS_sound {op : BinOp} {t : Nat} {x y : Value} {p : List Prop} {v : Value} (h : binS C op t x y = some (p, v)) (hp : AllP p) : bop C op t x y = some v := by
  unfold binS at h
  split at h
  · split at h
    · rename_i hk
      subst hk
      cases h
      have h1 : ¬ _ = (0 : Int) := hp.singl
      simp [bop, isShift, intOp, h1]
    · cases h
  · split at h
    · rename_i hk
      subst hk
      cases h
      have h1 : ¬ _ = (0 : Int) := hp.singl
      simp [bop, isShift, intOp, h1]
    · cases h
  · cases h
    have h1 : (0 : Int) ≤ _ := hp.singl
    simp only [bop, isShift, shiftOp, if_true]
    rw [if_neg (by omega)]
  · cases h
    have h1 : (0 : Int) ≤ _ := hp.singl
    simp only [bop, isShift, shiftOp, if_true]
    rw [if_neg (by omega)]
  · cases h
    simp only [bop, strOp]
    rw [if_pos hp.singl]
  · split at h
    · cases h; assumption
    · cases h

theorem spv_sound {es : Nat → Option Nat} {o : Oper} {p : List Prop} {v : Value} (h : spv C es T o = some (p, v)) (hp : AllP p) : pv C es T o = some v := by
  unfold spv at h
  split at h
  · rename_i ho
    split at h
    · rename_i h1 h2
      simp only [pv, ho, h1, h2]
      exact binS_sound h hp
    · cases h
  · rename_i ho
    split at h
    · rename_i h1 h2
      simp only [pv, ho, h1, h2]
      exact indexAddrS_sound h hp
    · cases h
  · rename_i ho
    split at h
    · rename_i h0 h1 h2
      cases h
      have h3 := hp.singl
      simp only [pv, ho, h1, h2, indexOf, h0]
      rw [if_pos h3.1]
      rename_i s _ j
      have : s[j.toNat]? = some (s[j.toNat]'h3.2) := getElem?_pos ..
      rw [this]
      rfl
    · cases h
  · rename_i ho
    split at h
    · rename_i h1
      simp only [pv, ho, h1]
      exact sliceS_sound h hp
    · cases h
  · split at h
    · cases h; assumption
    · cases h

theorem sav_sound {name : Nat} {o : Oper} {p : List Prop} {v : Value} {b : Blk} (h : sav C name T o = some (p, v, b)) (hp : AllP p) : av C name T o = some (v, b) := by
  unfold sav at h
  split at h
  · rename_i ho
    split at h
    · rename_i h0 h1 h2
      split at h
      · cases h
      · rename_i hd
        cases h
        simp only [av, ho, h0, h1, h2]
        have h3 := hp.singl
        simp only [h3, and_self, if_true]
    · cases h
  · split at h
    · cases h; assumption
    · cases h

theorem nfL_len {raw : Bool} : ∀ {ts : List Nat} {i : Nat} {cs ys : List Value}, nfL C raw ts i cs = some ys → ys.length = ts.length
  | [], i, cs, ys, h => by simp only [nfL] at h; cases h; rfl
  | t :: ts, i, cs, ys, h => by
    simp only [nfL] at h
    split at h
    · cases h
    · split at h
      · cases h
      · rename_i hys
        cases h
        simp [nfL_len hys]

theorem take_one {cs : List Value} {y : Value} (h : cs.take 1 = [y]) : cs[0]? = some y := by
  cases cs with
  | nil => simp at h
  | cons x xs => simpa using h

theorem load_mem {t n o : Nat} {b : Blk} {p : List Prop} {v : Value} (hb : m[n]? = some b) (hlive : b.live = true) (h : loadS C true t (b.cells.drop o) = some (p, v)) (hp : AllP p) :
    (match (C.ty t).d with
      | .other => none
      | .struct _ => match rd m n o (C.ty t).size with
        | some cs => some (some n, Value.agg cs.toArray)
        | none => none
      | _ => (one (rd m n o 1)).map fun v => (some n, v)) = some (some n, v) := by
  have rdk : ∀ k ys, (b.cells.drop o).take k = ys → ys.length = k → rd m n o k = some ys := by
    intro k ys h1 h2
    unfold rd
    split
    · rename_i hk
      subst hk
      simp at h1
      rw [← h1]
    · rw [hb]
      simp only
      rw [← h1] at h2
      simp only [List.length_take, List.length_drop] at h2
      rw [if_pos ⟨hlive, by omega⟩, h1]
  unfold loadS at h
  split at h
  · cases h
  · rename_i fs hd
    split at h
    · rename_i ys hys
      split at h
      · rename_i hlen
        cases h
        try simp only [hd]
        rw [rdk _ _ hp.singl hlen]
      · cases h
    · cases h
  · rename_i hne hns
    split at h
    · rename_i y hy
      cases h
      have e := rdk 1 [v] hp.singl rfl
      cases hd : (C.ty t).d with
      | other => exact absurd hd hne
      | struct fs => exact absurd hd (hns fs)
      | _ => simp [e, one]
    · cases h

theorem load_ro {t : Nat} {cs : Array Value} {p : List Prop} {v : Value} (h : loadS C false t cs.toList = some (p, v)) (hp : AllP p) :
    (match (C.ty t).d with
      | .other => none
      | .struct _ => if (C.ty t).size ≤ cs.size then some ((none : Option Nat), Value.agg (cs.extract 0 (C.ty t).size)) else none
      | _ => (cs[0]?).map fun v => (none, v)) = some (none, v) := by
  unfold loadS at h
  split at h
  · cases h
  · rename_i fs hd
    split at h
    · rename_i ys hys
      split at h
      · rename_i hlen
        cases h
        try simp only [hd]
        have h1 : cs.toList.take (C.ty t).size = ys := hp.singl
        have h2 : (C.ty t).size ≤ cs.size := by
          rw [← h1] at hlen
          simp at hlen
          omega
        rw [if_pos h2]
        congr 3
        apply Array.toList_inj.1
        simp [h1]
      · cases h
    · cases h
  · rename_i hne hns
    split at h
    · rename_i y hy
      cases h
      have e := take_one hp.singl
      simp only [Array.getElem?_toList] at e
      cases hd : (C.ty t).d with
      | other => exact absurd hd hne
      | struct fs => exact absurd hd (hns fs)
      | _ => simp [e]
    · cases h

theorem srv_sound {o : Oper} {p : List Prop} {n : Option Nat} {v : Value} (h : srv C m T o = some (p, n, v)) (hp : AllP p) : rv C m T o = some (n, v) := by
  unfold srv at h
  split at h
  · rename_i ho
    split at h
    · rename_i h0
      split at h
      · rename_i b hb
        split at h
        · rename_i hlive
          split at h
          · rename_i hl
            cases h
            have := load_mem hb hlive hl hp
            simp only [rv, ho, h0]
            exact this
          · cases h
        · cases h
      · cases h
    · rename_i h0
      split at h
      · rename_i hl
        cases h
        have := load_ro hl hp
        simp only [rv, ho, h0]
        exact this
      · cases h
    · cases h
  · rename_i ho
    split at h
    · rename_i h0 h1 h2
      split at h
      · rename_i hd
        split at h
        · rename_i b hb
          split at h
          · rename_i hlive
            cases h
            obtain ⟨e1, e2⟩ := hp.singl
            simp only [rv, ho, h0, h1, h2, hd]
            have rdk : ∀ q o len, m[q]? = some b → o + len ≤ b.cells.length → rd m q o len = some ((b.cells.drop o).take len) := by
              intro q o len hb e1
              unfold rd
              split
              · rename_i hz; rw [hz]; simp
              · simp only [hb, hlive, e1, and_self, if_true]
            rw [rdk _ _ _ hb e1]
            simp only [e2]
          · cases h
        · cases h
      · cases h
    · rename_i h0 h1 h2
      split at h
      · rename_i hd
        cases h
        obtain ⟨e1, e2⟩ := hp.singl
        simp only [rv, ho, h0, h1, h2, hd]
        rw [if_pos e1]
        simp only [e2]
      · cases h
    · split at h
      · cases h; assumption
      · cases h
  · cases h

theorem storeS_sound {t : Nat} {a x : Value} {p : List Prop} {m' : Mem} (h : storeS C m t a x = some (p, m')) (hp : AllP p) : storeOf C m t a x = some m' := by
  unfold storeS at h
  unfold storeOf
  split at h
  · cases h
  · rename_i q hd
    split at h
    · rename_i hc
      split at h
      · rename_i b hb
        split at h
        · rename_i hbo
          cases h
          have h1 := hp.singl
          have : wr m q.block q.off x.cells.toList = some (m.set q.block { b with cells := splice b.cells q.off x.cells.toList }) := by
            unfold wr
            split
            · rename_i hz
              have : x.cells.size = 0 := by rw [← Array.length_toList, hz]; rfl
              omega
            · rw [hb]
              simp only
              rw [if_pos ⟨hbo.1, hbo.2, h1⟩]
          simp only [hc.1, hc.2.1, and_self, if_true, this]
        · cases h
      · cases h
    · cases h
  · cases h

theorem newS_sound {xt es k : Nat} {x : Value} {zero : List Value} {p : List Prop} {cs : List Value} (h : newS C m xt es x = some (p, cs, k)) (hp : AllP p) : newCells C m xt es zero x = some (cs, k) := by
  unfold newS at h
  unfold newCells
  split at h
  · rename_i h0; cases h; simp only [h0]
  · rename_i q len cap h0
    split at h
    · rename_i b hb
      split at h
      · rename_i hlive
        cases h
        have e1 := hp.singl
        simp only [h0]
        have : rd m q.block q.off (k * es) = some ((b.cells.drop q.off).take (k * es)) := by
          unfold rd
          split
          · rename_i hz; rw [hz]; simp
          · simp only [hb, hlive, e1, and_self, if_true]
        rw [this]
        rfl
      · cases h
    · cases h
  · rename_i h0
    cases h
    simp only [h0]
    rw [if_pos hp.singl]
  · rename_i h0
    split at h
    · rename_i hes
      cases h
      simp only [h0]
      rw [if_pos hes]
    · cases h
  · cases h

theorem appendS_sound {es bytes k : Nat} {s v : Value} {cs : List Value} {p : List Prop} {m' : Mem} (h : appendS m es bytes s cs k = some (p, v, m')) (hp : AllP p) : appendIn m es bytes s cs k = some (v, m') := by
  unfold appendS at h
  unfold appendIn
  split at h
  · cases h
    obtain ⟨h1, h2, h3⟩ := hp.singl
    simp only
    rw [if_neg (by omega), if_pos ⟨h2, h3⟩]
  · rename_i q len cap
    split at h
    · rename_i b hb
      split at h
      · rename_i hc
        cases h
        obtain ⟨h1, h2, h3⟩ := hp.singl
        simp only [hb]
        rw [if_pos ⟨hc.1, hc.2.1, hc.2.2, h2, h3⟩]
        have : rd m q.block q.off (len * es) = some ((b.cells.drop q.off).take (len * es)) := by
          unfold rd
          split
          · rename_i hz; rw [hz]; simp
          · simp only [hb, hc.1, h1, and_self, if_true]
        rw [this]
      · cases h
    · cases h
  · cases h

theorem hardV_deep : ∀ (k : Nat) (v : Value), hardV k v = true → Deep v := by
  intro k
  induction k with
  | zero => intro v h; simp [hardV] at h
  | succ k ih =>
    intro v h
    unfold hardV at h
    split at h
    · rename_i cs _ _
      simp_all
    · rename_i j cs e
      cases e
      refine .agg cs cs rfl fun i x y hx hy => ?_
      rw [hx] at hy
      cases hy
      rw [List.all_eq_true] at h
      exact ih x (h x (Array.mem_toList_iff.2 (Array.mem_of_getElem? hx)))
    · rename_i j cs e
      cases e
      refine .tuple cs cs rfl fun i x y hx hy => ?_
      rw [hx] at hy
      cases hy
      rw [List.all_eq_true] at h
      exact ih x (h x (Array.mem_toList_iff.2 (Array.mem_of_getElem? hx)))
    · exact .inert _ (hard1_hard h)

theorem mapF_nil {f : Value → Option (Value × List Nat)} : ∀ {vs xs : List Value} {ns : List Nat}, (∀ v ∈ vs, ∀ x n, f v = some (x, n) → n = []) → mapF f vs = some (xs, ns) → ns = []
  | [], xs, ns, _, h => by simp only [mapF] at h; cases h; rfl
  | v :: vs, xs, ns, hf, h => by
    simp only [mapF] at h
    split at h
    · cases h
    · rename_i y a hy
      split at h
      · cases h
      · rename_i ys b hys
        cases h
        have h1 := hf v (List.mem_cons_self ..) _ _ hy
        have h2 := mapF_nil (fun w hw => hf w (List.mem_cons_of_mem _ hw)) hys
        rw [h1, h2]
        rfl

theorem nameless_frz {m : Mem} : ∀ (j k : Nat) (v x : Value) (ns : List Nat), nameless j v = true → frz k m v = some (x, ns) → ns = [] := by
  intro j
  induction j with
  | zero => intro k v x ns h; simp [nameless] at h
  | succ j ih =>
    intro k v x ns h hf
    cases k with
    | zero => simp [frz] at hf
    | succ k =>
      unfold nameless at h
      split at h
      · simp_all
      · rename_i _ cs e
        cases e
        simp only [frz] at hf
        split at hf
        · rename_i hx
          cases hf
          rw [List.all_eq_true] at h
          exact mapF_nil (fun w hw y n hy => ih k w y n (h w hw) hy) hx
        · cases hf
      · rename_i _ cs e
        cases e
        simp only [frz] at hf
        split at hf
        · rename_i hx
          cases hf
          rw [List.all_eq_true] at h
          exact mapF_nil (fun w hw y n hy => ih k w y n (h w hw) hy) hx
        · cases hf
      · simp only [Bool.or_eq_true] at h
        rcases h with h | h
        · rw [frz_fixd h] at hf
          cases hf
          rfl
        · split at h
          · simp only [frz] at hf
            cases hf
            rfl
          · simp only [Bool.and_eq_true, beq_iff_eq] at h
            simp only [frz, if_pos h] at hf
            cases hf
            rfl
          · cases h

theorem callK_still {f : FuncId} {args as : List Value} {p : List Prop} {P : Prop} {v : Value} (hL : L.find? (fun i => i.f == f) = none) (h1 : mapS (sfrz 64 m) args = some (p, as)) (h2 : K f as = some (P, v)) (h3 : args.all (nameless 4) = true ∨ hardV 4 v = true) (hp : AllP (p ++ [P])) :
    callK K L f args m = some (v, m) := by
  have hq := hp.append
  obtain ⟨ns, hns⟩ := mapS_sound (sfrz_sound m 64) _ _ _ h1 hq.1
  unfold callK
  simp only [hL, hns, h2]
  rw [if_pos]
  refine ⟨hq.2.singl, ?_⟩
  rcases h3 with h3 | h3
  rotate_left
  · exact .inl (hardV_deep 4 v h3)
  · right
    rw [List.all_eq_true] at h3
    exact mapF_nil (fun w hw y n hy => nameless_frz 4 64 w y n (h3 w hw) hy) hns

theorem wv_nocall {call : CallF} {o : Oper} {r : Value × Mem} (e : wv C (fun _ _ _ => none) m T o = some r) : wv C call m T o = some r := by
  unfold wv at e ⊢
  split at e
  · exact e
  · split at e
    · exact e
    · exact e
    · exact e
    · split at e
      · cases e
      · cases e
    · cases e
  · cases e

theorem swv_sound {o : Oper} {p : List Prop} {v : Value} {m' : Mem} {ch : Bool} (h : swv C K L m T o = some (p, v, m', ch)) (hp : AllP p) : wv C (callK K L) m T o = some (v, m') ∧ (ch = false → m' = m) := by
  unfold swv at h
  split at h
  · rename_i ho
    split at h
    · rename_i h1 h2
      split at h
      · rename_i hs
        cases h
        refine ⟨?_, fun h => by cases h⟩
        simp only [wv, ho, h1, h2, storeS_sound hs hp]
      · cases h
    · cases h
  · rename_i c ho
    split at h
    · rename_i hc hargs
      split at h
      · rename_i ht hxt
        split at h
        · split at h
          · rename_i ha
            cases h
            refine ⟨?_, fun h => by cases h⟩
            simp only [wv, ho, hc, hargs, ht, hxt, ha]
          · cases h
        · split at h
          · rename_i e hd
            split at h
            · cases h
            · rename_i hne
              split at h
              · cases h
              · rename_i p1 cs k hn
                split at h
                · rename_i q v1 m1 ha
                  cases h
                  have hq := hp.append
                  refine ⟨?_, fun h => by cases h⟩
                  have e1 : ∀ zero, newCells C m _ (C.ty e).size zero _ = some (cs, k) := fun zero => newS_sound hn hq.1
                  have e2 := appendS_sound ha hq.2
                  simp only [wv, ho, hc, hargs, ht, hxt, appendOf, hd]
                  cases hd' : (C.ty e).d with
                  | other => exact absurd hd' hne
                  | _ => simp only [e1, e2]
                · cases h
          · cases h
      · cases h
    · rename_i hc hargs
      split at h
      · rename_i g first captured hf
        split at h
        · rename_i i hi
          cases h
          have hq := hp.cons
          refine ⟨?_, fun h => by cases h⟩
          simp only [wv, ho, hc, hargs, hf, callK, hi]
          rw [if_pos ⟨hq.1, hq.2.singl⟩]
        · rename_i hi
          split at h
          · rename_i p1 as has
            split at h
            · rename_i P v1 hk
              split at h
              · rename_i hcond
                cases h
                refine ⟨?_, fun _ => rfl⟩
                simp only [wv, ho, hc, hargs, hf]
                exact callK_still hi has hk hcond hp
              · cases h
            · cases h
          · cases h
      · cases h
    · split at h
      · rename_i hw
        cases h
        exact ⟨wv_nocall hw, fun h => by cases h⟩
      · cases h
  · cases h

theorem sOp_sound {o : Oper} {p : List Prop} {v : Value} {m' : Mem} {n : Option Nat} {ch : Bool} (h : sOp C K L T m o = some (p, v, m', n, ch)) (hp : AllP p) : aOp C (callK K L) T m o = some (v, m', n) ∧ (ch = false → cls C o ≠ .alloc → m' = m) := by
  unfold sOp at h
  unfold aOp
  split at h
  · rename_i hc
    split at h
    · rename_i hs
      cases h
      simp only [hc, spv_sound hs hp]
      exact ⟨trivial, fun _ _ => trivial⟩
    · cases h
  · rename_i hc
    split at h
    · rename_i hs
      cases h
      simp only [hc, sav_sound hs hp]
      exact ⟨trivial, fun _ h => absurd rfl h⟩
    · cases h
  · rename_i hc
    split at h
    · rename_i hs
      cases h
      simp only [hc, srv_sound hs hp]
      exact ⟨trivial, fun _ _ => trivial⟩
    · cases h
  · rename_i hc
    split at h
    · rename_i hs
      cases h
      have := swv_sound hs hp
      simp only [hc, this.1]
      exact ⟨trivial, fun h _ => this.2 h⟩
    · cases h
end
end Go.Ab
