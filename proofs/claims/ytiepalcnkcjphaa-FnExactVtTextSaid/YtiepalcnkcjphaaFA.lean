/- Functions over values that stand for Go code, and the proof that the evaluator runs as they say. -/
import Derived.Test.YtiepalcnkcjphaaAbD
set_option linter.unusedVariables false
set_option linter.unusedSimpArgs false
namespace Go.Ab
noncomputable section
def bo {α β : Type} (k : α → Option β) (x : Option α) : Option β := Option.rec (motive := fun _ => Option β) none k x
def ob {α β : Type} (x : Option α) (k : α → Option β) : Option β := bo k x
theorem bo_some {α β : Type} (a : α) (k : α → Option β) : bo k (some a) = k a := rfl
theorem ob_some {α β : Type} (a : α) (k : α → Option β) : ob (some a) k = k a := rfl
theorem ob_eq {α β : Type} {x : Option α} {k : α → Option β} {b : β} (h : ob x k = some b) : ∃ a, x = some a ∧ k a = some b := by
  cases x with
  | none => cases h
  | some a => exact ⟨a, rfl, h⟩
abbrev VM := Value × Mem
def pickX (c a b : Value) : Option Value :=
  match c with
  | .bool true => some a
  | .bool false => some b
  | _ => none
inductive EK where
  | no
  | bool
  | ptr
  | func
  | st (offs : List Nat)
def eqFX : List Nat → List Value → List Value → Option Bool
  | [], _, _ => some true
  | off :: r, xs, ys => match xs[off]?, ys[off]? with
    | some (.int k a), some (.int k' b) => if k = k' then (match eqFX r xs ys with
      | some c => some (a == b && c)
      | none => none) else none
    | _, _ => none
def eqX (e : EK) (x y : Value) : Option Bool :=
  match e with
  | .bool => match x, y with
    | .bool a, .bool b => some (a == b)
    | _, _ => none
  | .ptr => match x, y with
    | .pointer none, .pointer b => some b.isNone
    | .pointer _, .pointer none => some false
    | _, _ => none
  | .func => match x, y with
    | .nilFunc, .nilFunc => some true
    | .nilFunc, .func _ _ _ => some false
    | .func _ _ _, .nilFunc => some false
    | _, _ => none
  | .st offs => match x, y with
    | .agg xs, .agg ys => eqFX offs xs.toList ys.toList
    | _, _ => none
  | .no => none
def binX (op : BinOp) (e : EK) (x y : Value) : Option Value :=
  match x, y with
  | .int k a, .int k' b => if isShift op then shiftOp op k a b else if k = k' then intOp op k a b else none
  | .string a, .string b => strOp op a b
  | x, y => match op with
    | .eql => (eqX e x y).map .bool
    | .neq => (eqX e x y).map fun z => .bool (!z)
    | _ => none
def nlX (op : BinOp) (x : Value) : Option Value :=
  match op with
  | .eql => (nilOf x).map .bool
  | .neq => (nilOf x).map fun z => .bool (!z)
  | _ => none
def extX (i : Nat) (x : Value) : Option Value :=
  match x with
  | .tuple vs => vs.toList[i]?
  | _ => none
def fld1 (off : Nat) (x : Value) : Option Value :=
  match x with
  | .agg cs => cs.toList[off]?
  | _ => none
def fldS (off sz : Nat) (x : Value) : Option Value :=
  match x with
  | .agg cs => some (.agg ((cs.toList.drop off).take sz).toArray)
  | _ => none
def fadX (off : Nat) (x : Value) : Option Value :=
  match x with
  | .pointer (some a) => some (.pointer (some ⟨a.block, a.off + off, none⟩))
  | .iface 0 (.tuple cs) => some (roP (cs.toList.drop off))
  | _ => none
def ixaX (sz : Nat) (x i : Value) : Option Value :=
  match x, i with
  | .slice (some a) len _, .int _ j => if 0 ≤ j ∧ j < len then some (.pointer (some ⟨a.block, a.off + j.toNat * sz, none⟩)) else none
  | .iface len (.agg cs), .int _ j => if 0 ≤ j ∧ j < len then some (roP ((cs.toList.drop (j.toNat * sz)).take sz)) else none
  | _, _ => none
def ixsX (x i : Value) : Option Value :=
  match x, i with
  | .string s, .int _ j => if 0 ≤ j then (s[j.toNat]?).map fun b => .int .u8 b.toNat else none
  | _, _ => none
def bndX (v : Option Value) (d : Nat) : Option Nat :=
  match v with
  | none => some d
  | some (.int _ i) => if 0 ≤ i then some i.toNat else none
  | _ => none
def slsX (x : Value) (lo hi : Option Value) : Option Value :=
  match x with
  | .string s => ob (bndX lo 0) fun l => ob (bndX hi s.size) fun h => if l ≤ h ∧ h ≤ s.size then some (.string (s.extract l h)) else none
  | _ => none
def slX (m : Mem) (sz : Nat) (x : Value) (lo hi : Option Value) : Option Value :=
  match x with
  | .slice a len cap => ob (bndX lo 0) fun l => ob (bndX hi len) fun h => if l ≤ h ∧ h ≤ cap then (match a with
      | none => some (.slice none (h - l) (cap - l))
      | some ad => if esOf m ad.block = some sz then some (.slice (some (if cap = l then ad else ⟨ad.block, ad.off + l * sz, none⟩)) (h - l) (cap - l)) else none) else none
  | .iface len (.agg cs) => ob (bndX lo 0) fun l => ob (bndX hi len) fun h => if l ≤ h ∧ h ≤ len then some (roS (h - l) ((cs.toList.drop (l * sz)).take ((h - l) * sz))) else none
  | _ => none
def cutX (x : Value) (lo : Option Value) (hi mx : Value) : Option Value :=
  match bndX lo 0, bndX (some hi) 0, bndX (some mx) 0, x with
  | some 0, some 0, some 0, .slice _ _ _ => some (.slice none 0 0)
  | some 0, some 0, some 0, .iface _ (.agg _) => some (.slice none 0 0)
  | _, _, _, _ => none
def cvI (k : IntKind) (x : Value) : Option Value :=
  match x with
  | .int _ n => some (.int k (k.wrap n))
  | _ => none
def cvS (x : Value) : Option Value :=
  match x with
  | .string s => some (.string s)
  | _ => none
def cvBS (m : Mem) (x : Value) : Option Value :=
  match x with
  | .slice a len _ => match a with
    | none => some (.string ByteArray.empty)
    | some p => ob (rd m p.block p.off len) fun cs => ob (bytesOf cs) fun l => some (.string ⟨l.toArray⟩)
  | .iface len (.agg cs) => if cs.size = len then ob (bytesOf cs.toList) fun l => some (.string ⟨l.toArray⟩) else none
  | _ => none
def cvSB (m : Mem) (x : Value) : Option VM :=
  match x with
  | .string s => some (.slice (some ⟨m.length, 0, none⟩) s.size s.size, m ++ [⟨ofBytes s, 1, true, true⟩])
  | _ => none
def lenS' (x : Value) : Option Value :=
  match x with
  | .string s => some (.int .i64 s.size)
  | _ => none
def lenX (x : Value) : Option Value :=
  match x with
  | .slice _ n _ => some (.int .i64 n)
  | .iface n (.agg _) => some (.int .i64 n)
  | _ => none
def capX (x : Value) : Option Value :=
  match x with
  | .slice none _ n => some (.int .i64 n)
  | _ => none
def nilX (x : Value) : Option Value :=
  match x with
  | .pointer (some a) => some (.pointer (some a))
  | .iface 0 (.tuple cs) => some (.iface 0 (.tuple cs))
  | _ => none
def layX (cells : List Value) : List (Nat × Nat × Value) → Option (List Value)
  | [] => some cells
  | (off, size, v) :: r => if v.cells.size = size ∧ off + size ≤ cells.length then layX (lay cells off v.cells.toList) r else none
def bldX (zero : List Value) (ps : List (Nat × Nat × Value)) : Option Value := ob (layX zero ps) fun cs => some (.agg cs.toArray)
def bslX (m : Mem) (len sz : Nat) (zero : List Value) (ps : List (Nat × Nat × Value)) : Option VM :=
  if len * sz ≤ 16777216 ∧ ps.all (fun p => p.2.2.cells.toList.all flat) = true then
    ob (layX (List.replicate len zero).flatten ps) fun cs => some (.slice (some ⟨m.length, 0, none⟩) len len, m ++ [⟨cs, sz, true, true⟩])
  else none
def boxX (m : Mem) (x : Value) : Option VM :=
  if x.cells.toList.all flat then some (.pointer (some ⟨m.length, 0, none⟩), m ++ [⟨x.cells.toList, 0, true, true⟩]) else none
def alX (m : Mem) (zero : List Value) : Option VM := some (.pointer (some ⟨m.length, 0, none⟩), m ++ [⟨zero, 0, true, true⟩])
def mkX (m : Mem) (sz bytes : Nat) (zero : List Value) (l c : Value) : Option VM :=
  match l, c with
  | .int .i64 l, .int .i64 c => if 0 ≤ l ∧ l ≤ c ∧ c * bytes ≤ 281474976710656 ∧ c ≤ 281474976710656 then
      some (.slice (some ⟨m.length, 0, none⟩) l.toNat c.toNat, m ++ [⟨(List.replicate c.toNat zero).flatten, sz, true, true⟩]) else none
  | _, _ => none
def ld1 (m : Mem) (a : Value) : Option Value :=
  match a with
  | .pointer (some p) => one (rd m p.block p.off 1)
  | .iface 0 (.tuple cs) => cs.toList[0]?
  | _ => none
def ldS (m : Mem) (sz : Nat) (a : Value) : Option Value :=
  match a with
  | .pointer (some p) => ob (rd m p.block p.off sz) fun cs => some (.agg cs.toArray)
  | .iface 0 (.tuple cs) => if sz ≤ cs.size then some (.agg (cs.toList.take sz).toArray) else none
  | _ => none
def stX (m : Mem) (sz : Nat) (a x : Value) : Option Mem :=
  match a with
  | .pointer (some p) => if x.cells.size = sz ∧ x.cells.toList.all flat = true then wr m p.block p.off x.cells.toList else none
  | _ => none
def rdN (a : Value) : Option Nat :=
  match a with
  | .pointer (some p) => some p.block
  | .slice (some p) _ _ => some p.block
  | _ => none
def callV (cf : CallF) (f : Value) (vs : List Value) (m : Mem) : Option VM :=
  match f with
  | .func (.func g) first captured => cf g (first.toList ++ vs ++ captured.toList) m
  | _ => none
def apL (m : Mem) (sz bytes : Nat) (s x : Value) : Option VM :=
  match x with
  | .slice none _ _ => appendIn m sz bytes s [] 0
  | .float .f64 1 => appendIn m sz bytes s [] 0
  | .slice (some p) len _ => ob (rd m p.block p.off (len * sz)) fun cs => appendIn m sz bytes s cs len
  | .iface len (.agg cs) => if cs.size = len * sz then appendIn m sz bytes s cs.toList len else none
  | _ => none
def apS (m : Mem) (sz bytes : Nat) (s x : Value) : Option VM :=
  match x with
  | .string t => if sz = 1 then appendIn m sz bytes s (ofBytes t) t.size else none
  | _ => none
def apI (m : Mem) (sz bytes : Nat) (zero : List Value) (s x : Value) : Option VM :=
  match x with
  | .int .i64 n => if 0 ≤ n ∧ n ≤ 140737488355328 then appendIn m sz bytes s (List.replicate n.toNat zero).flatten n.toNat else none
  | _ => none
def cpL (m : Mem) (sz : Nat) (d s : Value) : Option VM :=
  match d with
  | .slice a dl _ => match s with
    | .slice b sl _ => copyIn m sz a dl b sl
    | .iface sl (.agg cs) => copyRo m sz a dl sl cs.toList
    | _ => none
  | _ => none
def cpS (m : Mem) (sz : Nat) (d s : Value) : Option VM :=
  match d with
  | .slice a dl _ => match s with
    | .string t => copyStr m sz a dl t
    | _ => none
  | _ => none
def clX (m : Mem) (zero : List Value) (x : Value) : Option VM :=
  match x with
  | .slice a n _ => clearIn m zero n a
  | _ => none
section
variable (C : Cfg)
def offsOf : List (Nat × Nat) → Option (List Nat)
  | [] => some []
  | (off, ft) :: fs => match (C.ty ft).d with
    | .int _ => match offsOf fs with
      | some l => some (off :: l)
      | none => none
    | _ => none
def ekOf (t : Nat) : EK :=
  match (C.ty t).d with
  | .bool => .bool
  | .ptr => .ptr
  | .func => .func
  | .struct fs => if C.eqs.contains t then (match offsOf C fs with
    | some l => .st l
    | none => .no) else .no
  | _ => .no
def fdOf (t f : Nat) : Option (Nat × Option Nat) :=
  match (C.ty t).d with
  | .struct fs => match fs[f]? with
    | some (off, ft) => match (C.ty ft).d with
      | .other => none
      | .struct _ => some (off, some (C.ty ft).size)
      | _ => some (off, none)
    | none => none
  | _ => none
def faOf (t f : Nat) : Option Nat :=
  match (C.ty t).d with
  | .struct fs => match fs[f]? with
    | some (off, ft) => match (C.ty ft).d with
      | .other => none
      | _ => if (C.ty ft).size = 0 then none else some off
    | none => none
  | _ => none
def elOf (t : Nat) : Option Nat :=
  match (C.ty t).d with
  | .slice e => match (C.ty e).d with
    | .other => none
    | _ => some e
  | _ => none
def kindOf (t : Nat) : Option (Option Nat) :=
  match (C.ty t).d with
  | .other => none
  | .struct _ => some (some (C.ty t).size)
  | _ => some none
def plOf (t : Nat) : Option (List (Nat × Nat)) :=
  match (C.ty t).d with
  | .struct fs => some fs
  | _ => none
def evO (T : Tm) : Option Operand → (Option Value → Option VM) → Option VM
  | none, K => K none
  | some x, K => ob (ev C T x) fun v => K (some v)
def placesX (place : Nat → Option (Nat × Nat)) (T : Tm) : List (Nat × Operand) → (List (Nat × Nat × Value) → Option VM) → Option VM
  | [], K => K []
  | (i, x) :: r, K => ob (place i) fun p => ob (ev C T x) fun v => placesX place T r fun l => K ((p.1, p.2, v) :: l)
def evK (T : Tm) : List Operand → (List Value → Option VM) → Option VM
  | [], K => K []
  | x :: xs, K => ob (ev C T x) fun v => evK T xs fun vs => K (v :: vs)
def callK' (cf : CallF) (T : Tm) (m : Mem) (c : Call) (K : Value → Mem → Option VM) : Option VM :=
  match c.callee with
  | .builtin .len => evK C T c.args.toList fun vs => match vs, c.argTypes[0]? with
    | x :: _, some t => (match (C.ty t).d with
      | .str => ob (lenS' x) fun v => K v m
      | .slice _ => ob (lenX x) fun v => K v m
      | _ => none)
    | _, _ => none
  | .builtin .cap => evK C T c.args.toList fun vs => match vs, c.argTypes[0]? with
    | x :: _, some t => (match (C.ty t).d with
      | .slice _ => ob (capX x) fun v => K v m
      | _ => none)
    | _, _ => none
  | .builtin .min => evK C T c.args.toList fun vs => match vs with
    | x :: xs => ob (minMax false x xs) fun v => K v m
    | _ => none
  | .builtin .max => evK C T c.args.toList fun vs => match vs with
    | x :: xs => ob (minMax true x xs) fun v => K v m
    | _ => none
  | .builtin .append => evK C T c.args.toList fun vs => match vs, c.argTypes[0]?, c.argTypes[1]? with
    | [s, x], some t, some xt => ob (elOf C t) fun e => (match (C.ty xt).d with
      | .slice _ => ob (apL m (C.ty e).size (C.ty e).bytes s x) fun r => K r.1 r.2
      | .str => ob (apS m (C.ty e).size (C.ty e).bytes s x) fun r => K r.1 r.2
      | .int _ => ob (apI m (C.ty e).size (C.ty e).bytes (C.ty e).zero s x) fun r => K r.1 r.2
      | _ => none)
    | _, _, _ => none
  | .builtin .copy => evK C T c.args.toList fun vs => match vs, c.argTypes[0]?, c.argTypes[1]? with
    | [d, s], some t, some xt => ob (elOf C t) fun e => (match (C.ty xt).d with
      | .slice _ => ob (cpL m (C.ty e).size d s) fun r => K r.1 r.2
      | .str => ob (cpS m (C.ty e).size d s) fun r => K r.1 r.2
      | _ => none)
    | _, _, _ => none
  | .builtin .clear => evK C T c.args.toList fun vs => match vs, c.argTypes[0]? with
    | [x], some t => ob (elOf C t) fun e => ob (clX m (C.ty e).zero x) fun r => K r.1 r.2
    | _, _ => none
  | .value f => ob (ev C T f) fun vf => evK C T c.args.toList fun vs => ob (callV cf vf vs m) fun r => K r.1 r.2
  | _ => none
def opK (cf : CallF) (T : Tm) (m : Mem) (o : Oper) (K : Value → Mem → Option VM) : Option VM :=
  match o.op with
  | .move x => ob (ev C T x) fun v => K v m
  | .assign x => ob (ev C T x) fun v => K v m
  | .pick c a b => ob (ev C T c) fun vc => ob (ev C T a) fun va => ob (ev C T b) fun vb => ob (pickX vc va vb) fun v => K v m
  | .binOp op t x y _ => cond (isNilC y) (match (C.ty t).d with
    | .slice _ => ob (ev C T x) fun a => ob (nlX op a) fun v => K v m
    | _ => none) (ob (ev C T x) fun a => ob (ev C T y) fun b => ob (binX op (ekOf C t) a b) fun v => K v m)
  | .unOp op _ x => ob (ev C T x) fun a => ob (uop op a) fun v => K v m
  | .convert src dst x => match (C.ty src).d, (C.ty dst).d with
    | .int _, .int k => ob (ev C T x) fun a => ob (cvI k a) fun v => K v m
    | .str, .str => ob (ev C T x) fun a => ob (cvS a) fun v => K v m
    | .slice e, .str => (match (C.ty e).d with
      | .int .u8 => ob (ev C T x) fun a => ob (cvBS m a) fun v => K v m
      | _ => none)
    | .str, .slice e => (match (C.ty e).d with
      | .int .u8 => ob (ev C T x) fun a => ob (cvSB m a) fun r => K r.1 r.2
      | _ => none)
    | _, _ => none
  | .extract x i => ob (ev C T x) fun a => ob (extX i a) fun v => K v m
  | .field t x f => ob (fdOf C t f) fun p => ob (ev C T x) fun a => (match p.2 with
    | none => ob (fld1 p.1 a) fun v => K v m
    | some s => ob (fldS p.1 s a) fun v => K v m)
  | .fieldAddr t x f => ob (faOf C t f) fun off => ob (ev C T x) fun a => ob (fadX off a) fun v => K v m
  | .indexAddr t x i => ob (elOf C t) fun e => ob (ev C T x) fun a => ob (ev C T i) fun b => ob (ixaX (C.ty e).size a b) fun v => K v m
  | .index t x i => match (C.ty t).d with
    | .str => ob (ev C T x) fun a => ob (ev C T i) fun b => ob (ixsX a b) fun v => K v m
    | _ => none
  | .slice t x lo hi none => ob (ev C T x) fun a => evO C T lo fun l => evO C T hi fun h => (match (C.ty t).d with
    | .str => ob (slsX a l h) fun v => K v m
    | .slice _ => ob (elOf C t) fun e => ob (slX m (C.ty e).size a l h) fun v => K v m
    | _ => none)
  | .slice t x lo (some hi) (some mx) => ob (ev C T x) fun a => evO C T lo fun l => ob (ev C T hi) fun h => ob (ev C T mx) fun u => ob (elOf C t) fun _ => ob (cutX a l h u) fun v => K v m
  | .build t parts => ob (plOf C t) fun fs => placesX C (structPlace C fs) T parts.toList fun ps => ob (bldX (C.ty t).zero ps) fun v => K v m
  | .nilCheck x => ob (ev C T x) fun a => ob (nilX a) fun v => K v m
  | .makeFunc fn first captured => evK C T first.toList fun a => evK C T captured.toList fun b => K (.func fn a.toArray b.toArray) m
  | .alloc t => match (C.ty t).d with
    | .other => none
    | _ => ob (alX m (C.ty t).zero) fun r => K r.1 r.2
  | .box _ x => ob (ev C T x) fun a => ob (boxX m a) fun r => K r.1 r.2
  | .buildSlice t len parts => ob (elOf C t) fun e => placesX C (fun i => some (i * (C.ty e).size, (C.ty e).size)) T parts.toList fun ps => ob (bslX m len (C.ty e).size (C.ty e).zero ps) fun r => K (cond (C.lit0 && Nat.beq len 0) (.slice none 0 0) r.1) r.2
  | .makeSlice t l c => ob (elOf C t) fun e => ob (ev C T l) fun a => ob (ev C T c) fun b => ob (mkX m (C.ty e).size (C.ty e).bytes (C.ty e).zero a b) fun r => K r.1 r.2
  | .load t a => ob (kindOf C t) fun q => ob (ev C T a) fun p => (match q with
    | none => ob (ld1 m p) fun v => K v m
    | some s => ob (ldS m s p) fun v => K v m)
  | .store t a x => ob (kindOf C t) fun _ => ob (ev C T a) fun p => ob (ev C T x) fun v => ob (stX m (C.ty t).size p v) fun m' => K (.tuple #[]) m'
  | .call c => callK' C cf T m c K
  | _ => none
def rdOf (T : Tm) (o : Oper) : Option Nat :=
  match o.op with
  | .load _ a => match ev C T a with
    | some v => rdN v
    | none => none
  | .convert src dst x => match (C.ty src).d, (C.ty dst).d with
    | .slice _, .str => match ev C T x with
      | some v => rdN v
      | none => none
    | _, _ => none
  | _ => none
end
end
end Go.Ab
namespace Go.Ab
section
variable {C : Cfg} {cf : CallF} {T : Tm} {m : Mem} {o : Oper} {K : Value → Mem → Option VM} {r : VM}
theorem evK_sound : ∀ {xs : List Operand} {K : List Value → Option VM}, evK C T xs K = some r → ∃ vs, evL C T xs = some vs ∧ K vs = some r
  | [], K, h => ⟨[], rfl, h⟩
  | x :: xs, K, h => by
    obtain ⟨v, h1, h2⟩ := ob_eq h
    obtain ⟨vs, h3, h4⟩ := evK_sound h2
    exact ⟨v :: vs, by simp only [evL, h1, h3], h4⟩
theorem evO_sound {x : Option Operand} {K : Option Value → Option VM} (h : evO C T x K = some r) : ∃ v, x.map (ev C T) = v.map some ∧ K v = some r := by
  cases x with
  | none => exact ⟨none, rfl, h⟩
  | some x =>
    obtain ⟨v, h1, h2⟩ := ob_eq h
    exact ⟨some v, by simp [h1], h2⟩
theorem bnd_eq (v : Option Value) (d : Nat) : boundOf (v.map some) d = bndX v d := by
  cases v with
  | none => rfl
  | some v => cases v <;> rfl
theorem places_sound {place : Nat → Option (Nat × Nat)} : ∀ {l : List (Nat × Operand)} {K : List (Nat × Nat × Value) → Option VM}, placesX C place T l K = some r →
    ∃ ps qs, evP C T l = some ps ∧ K qs = some r ∧ (∀ cells, fillL place cells ps = layX cells qs) ∧ ps.map (·.2) = qs.map (·.2.2)
  | [], K, h => ⟨[], [], rfl, h, fun _ => rfl, rfl⟩
  | (i, x) :: l, K, h => by
    obtain ⟨p, h1, h2⟩ := ob_eq h
    obtain ⟨v, h3, h4⟩ := ob_eq h2
    obtain ⟨ps, qs, h5, h6, h7, h8⟩ := places_sound h4
    refine ⟨(i, v) :: ps, _, by simp only [evP, h3, h5], h6, fun cells => ?_, by simp [h8]⟩
    obtain ⟨off, size⟩ := p
    simp only [fillL, h1, layX]
    split
    · exact h7 _
    · rfl
theorem offs_sound {fs : List (Nat × Nat)} : ∀ {l : List Nat}, offsOf C fs = some l → ∀ xs ys, eqF C fs xs ys = eqFX l xs.toList ys.toList := by
  induction fs with
  | nil => intro l h xs ys; cases h; rfl
  | cons p fs ih =>
    obtain ⟨off, ft⟩ := p
    intro l h xs ys
    simp only [offsOf] at h
    split at h
    · rename_i k hk
      split at h
      · rename_i l' hl
        cases h
        simp only [eqF, eqFX, hk, ih hl, Array.getElem?_toList]
        cases xs[off]? with
        | none => rfl
        | some x => cases ys[off]? with
          | none => cases x <;> rfl
          | some y => cases x <;> cases y <;> rfl
      · cases h
    · cases h
theorem eqX_sound {t : Nat} {x y : Value} {b : Bool} (h : eqX (ekOf C t) x y = some b) : eqv C t x y = some b := by
  unfold ekOf at h
  unfold eqv
  split at h
  · rename_i ht; simp only [ht]; exact h
  · rename_i ht; simp only [ht]; exact h
  · rename_i ht; simp only [ht]; exact h
  · rename_i fs ht
    split at h
    · rename_i hc
      split at h
      · rename_i l hl
        simp only [ht, hc, if_true]
        unfold eqX at h
        simp only at h
        split at h
        · exact (offs_sound hl _ _).trans h
        · cases h
      · simp [eqX] at h
    · simp [eqX] at h
  · simp [eqX] at h
theorem binX_sound {op : BinOp} {t : Nat} {x y v : Value} (h : binX op (ekOf C t) x y = some v) : bop C op t x y = some v := by
  unfold binX at h
  unfold bop
  split at h
  · exact h
  · exact h
  · rename_i h1 h2
    split
    · rename_i k a k' b
      exact absurd rfl (h1 k a k' b rfl)
    · rename_i a b
      exact absurd rfl (h2 a b rfl)
    · split at h
      · cases he : eqX (ekOf C t) x y with
        | none => rw [he] at h; cases h
        | some b => rw [he] at h; rw [eqX_sound he]; exact h
      · cases he : eqX (ekOf C t) x y with
        | none => rw [he] at h; cases h
        | some b => rw [he] at h; rw [eqX_sound he]; exact h
      · cases h
theorem arr_part (cs : Array Value) (off sz : Nat) : cs.extract off (off + sz) = ((cs.toList.drop off).take sz).toArray := by
  apply Array.ext'
  simp [Array.toList_extract]
theorem el_ty {t e : Nat} (h : elOf C t = some e) : (C.ty t).d = .slice e ∧ isOther (C.ty e).d = false := by
  unfold elOf at h
  split at h
  · rename_i e' ht
    split at h
    · cases h
    · rename_i hn
      cases h
      refine ⟨ht, ?_⟩
      cases hd : (C.ty e).d <;> first | rfl | exact absurd hd hn
  · cases h
theorem kind_ty {t : Nat} {q : Option Nat} (h : kindOf C t = some q) : isOther (C.ty t).d = false ∧ ((∃ fs, (C.ty t).d = .struct fs ∧ q = some (C.ty t).size) ∨ ((∀ fs, (C.ty t).d ≠ .struct fs) ∧ q = none)) := by
  unfold kindOf at h
  split at h
  · cases h
  · rename_i fs hd
    cases h
    exact ⟨by rw [hd]; rfl, .inl ⟨fs, hd, rfl⟩⟩
  · rename_i h1 h2
    cases h
    refine ⟨?_, .inr ⟨h2, rfl⟩⟩
    cases hd : (C.ty t).d <;> first | rfl | exact absurd hd h1
def gives (C : Cfg) (cf : CallF) (T : Tm) (m : Mem) (o : Oper) (K : Value → Mem → Option VM) (r : VM) : Prop := ∃ v m', aOp C cf T m o = some (v, m', rdOf C T o) ∧ K v m' = some r
theorem gives_pure {v : Value} (hc : cls C o = .pure) (hr : rdOf C T o = none) (hv : pv C (esOf m) T o = some v) (hk : K v m = some r) : gives C cf T m o K r := by
  refine ⟨v, m, ?_, hk⟩
  unfold aOp
  rw [hc, hr]
  simp only [hv]
theorem gives_alloc {v : Value} {b : Blk} (hc : cls C o = .alloc) (hr : rdOf C T o = none) (hv : av C m.length T o = some (v, b)) (hk : K v (m ++ [b]) = some r) : gives C cf T m o K r := by
  refine ⟨v, m ++ [b], ?_, hk⟩
  unfold aOp
  rw [hc, hr]
  simp only [hv]
theorem gives_read {v : Value} {n : Option Nat} (hc : cls C o = .read) (hr : rdOf C T o = n) (hv : rv C m T o = some (n, v)) (hk : K v m = some r) : gives C cf T m o K r := by
  refine ⟨v, m, ?_, hk⟩
  unfold aOp
  rw [hc, hr]
  simp only [hv]
theorem gives_eff {v : Value} {m' : Mem} (hc : cls C o = .eff) (hr : rdOf C T o = none) (hv : wv C cf m T o = some (v, m')) (hk : K v m' = some r) : gives C cf T m o K r := by
  refine ⟨v, m', ?_, hk⟩
  unfold aOp
  rw [hc, hr]
  simp only [hv]
theorem callV_eq {f : Value} {vs : List Value} {x : VM} (h : callV cf f vs m = some x) : ∃ g first captured, f = .func (.func g) first captured ∧ cf g (first.toList ++ vs ++ captured.toList) m = some x := by
  unfold callV at h
  split at h
  · exact ⟨_, _, _, rfl, h⟩
  · cases h
theorem call_sound {c : Call} (ho : o.op = .call c) (h : callK' C cf T m c K = some r) : gives C cf T m o K r := by
  have hrd : rdOf C T o = none := by unfold rdOf; rw [ho]
  unfold callK' at h
  split at h
  · rename_i hc
    obtain ⟨vs, h1, h2⟩ := evK_sound h
    split at h2
    · rename_i x xs t ht
      split at h2 <;> try (cases h2; done)
      all_goals
        rename_i hty
        obtain ⟨v, h3, h4⟩ := ob_eq h2
        refine gives_pure (v := v) (by unfold cls; rw [ho]; simp only [hc]) hrd ?_ h4
        unfold pv
        simp only [ho, hc, h1, ht]
        first | unfold lenS' at h3 | unfold lenX at h3
        unfold lenOf
        split at h3 <;> first | (cases h3; done) | (rw [hty]; exact h3)
    · cases h2
  · rename_i hc
    obtain ⟨vs, h1, h2⟩ := evK_sound h
    split at h2
    · rename_i x xs t ht
      split at h2 <;> try (cases h2; done)
      rename_i hty
      obtain ⟨v, h3, h4⟩ := ob_eq h2
      refine gives_pure (v := v) (by unfold cls; rw [ho]; simp only [hc]) hrd ?_ h4
      unfold pv
      simp only [ho, hc, h1, ht]
      unfold capX at h3
      unfold capOf
      split at h3 <;> first | (cases h3; done) | (rw [hty]; exact h3)
    · cases h2
  · rename_i hc
    obtain ⟨vs, h1, h2⟩ := evK_sound h
    split at h2
    · obtain ⟨v, h3, h4⟩ := ob_eq h2
      refine gives_pure (v := v) (by unfold cls; rw [ho]; simp only [hc]) hrd ?_ h4
      unfold pv
      simp only [ho, hc, h1, h3]
    · cases h2
  · rename_i hc
    obtain ⟨vs, h1, h2⟩ := evK_sound h
    split at h2
    · obtain ⟨v, h3, h4⟩ := ob_eq h2
      refine gives_pure (v := v) (by unfold cls; rw [ho]; simp only [hc]) hrd ?_ h4
      unfold pv
      simp only [ho, hc, h1, h3]
    · cases h2
  · rename_i hc
    have hcl : cls C o = .eff := by unfold cls; rw [ho]; simp only [hc]
    obtain ⟨vs, h1, h2⟩ := evK_sound h
    split at h2
    · rename_i s x t xt ht hxt
      obtain ⟨e, he, h2⟩ := ob_eq h2
      obtain ⟨hte, hoe⟩ := el_ty he
      have key : ∀ {cs : List Value} {k : Nat} {y : VM}, newCells C m xt (C.ty e).size (C.ty e).zero x = some (cs, k) → appendIn m (C.ty e).size (C.ty e).bytes s cs k = some y → K y.1 y.2 = some r → gives C cf T m o K r := by
        intro cs k y e1 e2 e3
        refine gives_eff (v := y.1) (m' := y.2) hcl hrd ?_ e3
        unfold wv
        simp only [ho, hc, h1, ht, hxt, appendOf, hte]
        cases hd : (C.ty e).d <;> first | (rw [hd] at hoe; cases hoe; done) | (simp only [e1, e2])
      split at h2
      · rename_i d hd
        obtain ⟨y, h3, h4⟩ := ob_eq h2
        unfold apL at h3
        split at h3
        · exact key (by unfold newCells; simp only [hd]) h3 h4
        · exact key (by unfold newCells; simp only [hd]) h3 h4
        · obtain ⟨cs, h5, h6⟩ := ob_eq h3
          exact key (by unfold newCells; simp only [hd, h5]; rfl) h6 h4
        · split at h3
          · rename_i hsz
            exact key (by unfold newCells; simp only [hd, hsz, if_true]) h3 h4
          · cases h3
        · cases h3
      · rename_i hd
        obtain ⟨y, h3, h4⟩ := ob_eq h2
        unfold apS at h3
        split at h3
        · split at h3
          · rename_i hsz
            exact key (by unfold newCells; simp only [hd, hsz, if_true]) h3 h4
          · cases h3
        · cases h3
      · rename_i d hd
        obtain ⟨y, h3, h4⟩ := ob_eq h2
        unfold apI at h3
        split at h3
        · split at h3
          · rename_i hsz
            exact key (by unfold newCells; simp only [hd]; rw [if_pos hsz]) h3 h4
          · cases h3
        · cases h3
      · cases h2
    · cases h2
  · rename_i hc
    have hcl : cls C o = .eff := by unfold cls; rw [ho]; simp only [hc]
    obtain ⟨vs, h1, h2⟩ := evK_sound h
    split at h2
    · rename_i d s t xt ht hxt
      obtain ⟨e, he, h2⟩ := ob_eq h2
      obtain ⟨hte, hoe⟩ := el_ty he
      have key : ∀ {a : Option Addr} {dl cp : Nat} {y : VM}, d = .slice a dl cp → copyAny C m xt (C.ty e).size a dl s = some y → K y.1 y.2 = some r → gives C cf T m o K r := by
        intro a dl cp y e1 e2 e3
        subst e1
        refine gives_eff (v := y.1) (m' := y.2) hcl hrd ?_ e3
        unfold wv
        simp only [ho, hc, h1, ht, hxt, copyOf, hte]
        cases hd : (C.ty e).d <;> first | (rw [hd] at hoe; cases hoe; done) | (simp only [e2])
      split at h2
      · rename_i d hd
        obtain ⟨y, h3, h4⟩ := ob_eq h2
        unfold cpL at h3
        split at h3
        · split at h3
          · exact key rfl (by unfold copyAny; simp only [hd, h3]) h4
          · exact key rfl (by unfold copyAny; simp only [hd, h3]) h4
          · cases h3
        · cases h3
      · rename_i hd
        obtain ⟨y, h3, h4⟩ := ob_eq h2
        unfold cpS at h3
        split at h3
        · split at h3
          · exact key rfl (by unfold copyAny; simp only [hd, h3]) h4
          · cases h3
        · cases h3
      · cases h2
    · cases h2
  · rename_i hc
    have hcl : cls C o = .eff := by unfold cls; rw [ho]; simp only [hc]
    obtain ⟨vs, h1, h2⟩ := evK_sound h
    split at h2
    · rename_i x t ht
      obtain ⟨e, he, h2⟩ := ob_eq h2
      obtain ⟨hte, hoe⟩ := el_ty he
      obtain ⟨y, h3, h4⟩ := ob_eq h2
      unfold clX at h3
      split at h3
      · refine gives_eff (v := y.1) (m' := y.2) hcl hrd ?_ h4
        unfold wv
        simp only [ho, hc, h1, ht, clearOf, hte]
        cases hd : (C.ty e).d <;> first | (rw [hd] at hoe; cases hoe; done) | (simp only [h3])
      · cases h3
    · cases h2
  · rename_i f hc
    have hcl : cls C o = .eff := by unfold cls; rw [ho]; simp only [hc]
    obtain ⟨vf, h1, h2⟩ := ob_eq h
    obtain ⟨vs, h3, h4⟩ := evK_sound h2
    obtain ⟨y, h5, h6⟩ := ob_eq h4
    obtain ⟨g, a, b, rfl, h7⟩ := callV_eq h5
    refine gives_eff (v := y.1) (m' := y.2) hcl hrd ?_ h6
    unfold wv
    simp only [ho, hc, h3, h1, h7]
  · cases h
end
end Go.Ab
namespace Go.Ab
section
variable {C : Cfg} {cf : CallF} {T : Tm} {m : Mem} {o : Oper} {K : Value → Mem → Option VM} {r : VM}
theorem opK_sound (h : opK C cf T m o K = some r) : gives C cf T m o K r := by
  unfold opK at h
  split at h
  · -- move
    rename_i x ho
    obtain ⟨v, h1, h2⟩ := ob_eq h
    exact gives_pure (v := v) (by unfold cls; rw [ho]) (by unfold rdOf; rw [ho]) (by unfold pv; simp only [ho, h1]) h2
  · rename_i x ho
    obtain ⟨v, h1, h2⟩ := ob_eq h
    exact gives_pure (v := v) (by unfold cls; rw [ho]) (by unfold rdOf; rw [ho]) (by unfold pv; simp only [ho, h1]) h2
  · rename_i c a b ho
    obtain ⟨vc, h1, h2⟩ := ob_eq h
    obtain ⟨va, h3, h4⟩ := ob_eq h2
    obtain ⟨vb, h5, h6⟩ := ob_eq h4
    obtain ⟨v, h7, h8⟩ := ob_eq h6
    refine gives_pure (v := v) (by unfold cls; rw [ho]) (by unfold rdOf; rw [ho]) ?_ h8
    unfold pv
    unfold pickX at h7
    simp only [ho, h1]
    split at h7
    · simp only [h3]; exact h7
    · simp only [h5]; exact h7
    · cases h7
  · rename_i op t x y _ ho
    cases hn : isNilC y with
    | true =>
      rw [hn] at h
      have h : (match (C.ty t).d with
        | .slice _ => ob (ev C T x) fun a => ob (nlX op a) fun v => K v m
        | _ => none) = some r := h
      split at h
      · rename_i e hd
        obtain ⟨a, h1, h2⟩ := ob_eq h
        obtain ⟨v, h3, h4⟩ := ob_eq h2
        refine gives_pure (v := v) (by unfold cls; rw [ho]) (by unfold rdOf; rw [ho]) ?_ h4
        unfold pv
        simp only [ho, hn, if_true, h1]
        unfold nilOp
        rw [hd]
        exact h3
      · cases h
    | false =>
      rw [hn] at h
      have h : (ob (ev C T x) fun a => ob (ev C T y) fun b => ob (binX op (ekOf C t) a b) fun v => K v m) = some r := h
      obtain ⟨a, h1, h2⟩ := ob_eq h
      obtain ⟨b, h3, h4⟩ := ob_eq h2
      obtain ⟨v, h5, h6⟩ := ob_eq h4
      exact gives_pure (v := v) (by unfold cls; rw [ho]) (by unfold rdOf; rw [ho]) (by unfold pv; simp [ho, hn, h1, h3, binX_sound h5]) h6
  · rename_i op t x ho
    obtain ⟨a, h1, h2⟩ := ob_eq h
    obtain ⟨v, h3, h4⟩ := ob_eq h2
    exact gives_pure (v := v) (by unfold cls; rw [ho]) (by unfold rdOf; rw [ho]) (by unfold pv; simp only [ho, h1, h3]) h4
  · -- convert
    rename_i src dst x ho
    split at h
    · rename_i k0 k hs hd
      obtain ⟨a, h1, h2⟩ := ob_eq h
      obtain ⟨v, h3, h4⟩ := ob_eq h2
      refine gives_pure (v := v) (by unfold cls; rw [ho]; simp only [hs, hd]) (by unfold rdOf; rw [ho]; simp only [hs, hd]) ?_ h4
      unfold pv
      simp only [ho, h1]
      unfold cvI at h3
      unfold convOf
      split at h3
      · rw [hs, hd]; exact h3
      · cases h3
    · rename_i hs hd
      obtain ⟨a, h1, h2⟩ := ob_eq h
      obtain ⟨v, h3, h4⟩ := ob_eq h2
      refine gives_pure (v := v) (by unfold cls; rw [ho]; simp only [hs, hd]) (by unfold rdOf; rw [ho]; simp only [hs, hd]) ?_ h4
      unfold pv
      simp only [ho, h1]
      unfold cvS at h3
      unfold convOf
      split at h3
      · rw [hs, hd]; exact h3
      · cases h3
    · rename_i e hs hd
      split at h
      · rename_i he
        obtain ⟨a, h1, h2⟩ := ob_eq h
        obtain ⟨v, h3, h4⟩ := ob_eq h2
        unfold cvBS at h3
        have hcl : cls C o = .read := by unfold cls; rw [ho]; simp only [hs, hd]
        split at h3
        · split at h3
          · cases h3
            refine gives_read (n := none) hcl ?_ ?_ h4
            · unfold rdOf; rw [ho]; simp only [hs, hd, h1, rdN]
            · unfold rv; simp only [ho, hs, hd, h1, he]
          · rename_i p
            obtain ⟨cs, h5, h6⟩ := ob_eq h3
            obtain ⟨l, h7, h8⟩ := ob_eq h6
            cases h8
            refine gives_read (n := some p.block) hcl ?_ ?_ h4
            · unfold rdOf; rw [ho]; simp only [hs, hd, h1, rdN]
            · unfold rv; simp only [ho, hs, hd, h1, he, h5, h7]
        · split at h3
          · rename_i hsz
            obtain ⟨l, h7, h8⟩ := ob_eq h3
            cases h8
            refine gives_read (n := none) hcl ?_ ?_ h4
            · unfold rdOf; rw [ho]; simp only [hs, hd, h1, rdN]
            · unfold rv; simp only [ho, hs, hd, h1, he, hsz, if_true, h7]
          · cases h3
        · cases h3
      · cases h
    · rename_i e hs hd
      split at h
      · rename_i he
        obtain ⟨a, h1, h2⟩ := ob_eq h
        obtain ⟨y, h3, h4⟩ := ob_eq h2
        unfold cvSB at h3
        split at h3
        · cases h3
          refine gives_alloc (by unfold cls; rw [ho]; simp only [hs, hd]) (by unfold rdOf; rw [ho]; simp only [hs, hd]) ?_ h4
          unfold av
          simp only [ho, hs, hd, h1, he]
        · cases h3
      · cases h
    · cases h
  · rename_i x i ho
    obtain ⟨a, h1, h2⟩ := ob_eq h
    obtain ⟨v, h3, h4⟩ := ob_eq h2
    refine gives_pure (v := v) (by unfold cls; rw [ho]) (by unfold rdOf; rw [ho]) ?_ h4
    unfold extX at h3
    split at h3
    · unfold pv
      simp only [ho, h1]
      rw [← Array.getElem?_toList]
      exact h3
    · cases h3
  · -- field
    rename_i t x f ho
    obtain ⟨p, h1, h2⟩ := ob_eq h
    obtain ⟨a, h3, h4⟩ := ob_eq h2
    have key : ∀ {v}, fieldOf C t a f = some v → K v m = some r → gives C cf T m o K r := fun e1 e2 =>
      gives_pure (by unfold cls; rw [ho]) (by unfold rdOf; rw [ho]) (by unfold pv; simp only [ho, h3]; exact e1) e2
    unfold fdOf at h1
    split at h1
    · rename_i fs ht
      split at h1
      · rename_i off ft hf
        split at h1
        · cases h1
        · rename_i gs hd
          cases h1
          obtain ⟨v, h5, h6⟩ := ob_eq h4
          refine key (v := v) ?_ h6
          unfold fldS at h5
          split at h5
          · cases h5
            unfold fieldOf
            simp only [ht, hf, part, hd, arr_part]
          · cases h5
        · rename_i n1 n2
          cases h1
          obtain ⟨v, h5, h6⟩ := ob_eq h4
          refine key (v := v) ?_ h6
          unfold fld1 at h5
          split at h5
          · unfold fieldOf
            simp only [ht, hf, part]
            rw [Array.getElem?_toList] at h5
            exact h5
          · cases h5
      · cases h1
    · cases h1
  · rename_i t x f ho
    obtain ⟨off, h1, h2⟩ := ob_eq h
    obtain ⟨a, h3, h4⟩ := ob_eq h2
    obtain ⟨v, h5, h6⟩ := ob_eq h4
    refine gives_pure (v := v) (by unfold cls; rw [ho]) (by unfold rdOf; rw [ho]) ?_ h6
    unfold pv
    simp only [ho, h3]
    unfold faOf at h1
    split at h1
    · rename_i fs ht
      split at h1
      · rename_i off' ft hf
        split at h1
        · cases h1
        · rename_i n1
          split at h1
          · cases h1
          · rename_i hz
            cases h1
            unfold fadX at h5
            unfold fieldAddrOf
            split at h5
            · cases h5
              simp only [ht, hf]
              cases hd : (C.ty ft).d <;> first | exact absurd hd n1 | (simp only [if_neg hz])
            · cases h5
              simp only [ht, hf]
              cases hd : (C.ty ft).d <;> first | exact absurd hd n1 | (simp only [if_neg hz])
            · cases h5
      · cases h1
    · cases h1
  · rename_i t x i ho
    obtain ⟨e, h1, h2⟩ := ob_eq h
    obtain ⟨a, h3, h4⟩ := ob_eq h2
    obtain ⟨b, h5, h6⟩ := ob_eq h4
    obtain ⟨v, h7, h8⟩ := ob_eq h6
    obtain ⟨hte, hoe⟩ := el_ty h1
    refine gives_pure (v := v) (by unfold cls; rw [ho]) (by unfold rdOf; rw [ho]) ?_ h8
    unfold pv
    simp only [ho, h3, h5]
    unfold ixaX at h7
    unfold indexAddrOf
    split at h7
    · simp only [hte]
      split
      · rename_i e; rw [e] at hoe; cases hoe
      · exact h7
    · simp only [hte]
      split
      · rename_i e; rw [e] at hoe; cases hoe
      · exact h7
    · cases h7
  · rename_i t x i ho
    split at h
    · rename_i ht
      obtain ⟨a, h3, h4⟩ := ob_eq h
      obtain ⟨b, h5, h6⟩ := ob_eq h4
      obtain ⟨v, h7, h8⟩ := ob_eq h6
      refine gives_pure (v := v) (by unfold cls; rw [ho]) (by unfold rdOf; rw [ho]) ?_ h8
      unfold pv
      simp only [ho, h3, h5]
      unfold ixsX at h7
      unfold indexOf
      split at h7
      · simp only [ht]; exact h7
      · cases h7
    · cases h
  · -- slice
    rename_i t x lo hi ho
    obtain ⟨a, h1, h2⟩ := ob_eq h
    obtain ⟨l, h3, h4⟩ := evO_sound h2
    obtain ⟨u, h5, h6⟩ := evO_sound h4
    have key : ∀ {v}, sliceOf C (esOf m) t a (l.map some) (u.map some) = some v → K v m = some r → gives C cf T m o K r := fun e1 e2 =>
      gives_pure (by unfold cls; rw [ho]) (by unfold rdOf; rw [ho]) (by unfold pv; simp only [ho, h1, h3, h5]; exact e1) e2
    split at h6
    · rename_i ht
      obtain ⟨v, h7, h8⟩ := ob_eq h6
      refine key ?_ h8
      unfold slsX at h7
      split at h7
      · obtain ⟨q, q1, q2⟩ := ob_eq h7
        obtain ⟨p, p1, p2⟩ := ob_eq q2
        unfold sliceOf
        simp only [ht, bnd_eq, q1, p1]
        exact p2
      · cases h7
    · rename_i e0 ht
      obtain ⟨e, h7, h8⟩ := ob_eq h6
      obtain ⟨hte, hoe⟩ := el_ty h7
      obtain ⟨v, h9, h10⟩ := ob_eq h8
      refine key ?_ h10
      unfold slX at h9
      unfold sliceOf
      split at h9
      · obtain ⟨q, q1, q2⟩ := ob_eq h9
        obtain ⟨p, p1, p2⟩ := ob_eq q2
        simp only [hte]
        split
        · rename_i e; rw [e] at hoe; cases hoe
        · unfold sliceIn
          simp only [bnd_eq, q1, p1]
          exact p2
      · obtain ⟨q, q1, q2⟩ := ob_eq h9
        obtain ⟨p, p1, p2⟩ := ob_eq q2
        simp only [hte]
        split
        · rename_i e; rw [e] at hoe; cases hoe
        · unfold roPart
          simp only [bnd_eq, q1, p1]
          exact p2
      · cases h9
    · cases h6
  · rename_i t x lo hi mx ho
    obtain ⟨a, h1, h2⟩ := ob_eq h
    obtain ⟨l, h3, h4⟩ := evO_sound h2
    obtain ⟨u, h5, h6⟩ := ob_eq h4
    obtain ⟨w, h7, h8⟩ := ob_eq h6
    obtain ⟨e, h9, h10⟩ := ob_eq h8
    obtain ⟨hte, hoe⟩ := el_ty h9
    obtain ⟨v, h11, h12⟩ := ob_eq h10
    refine gives_pure (v := v) (by unfold cls; rw [ho]) (by unfold rdOf; rw [ho]) ?_ h12
    unfold pv
    simp only [ho, h1, h3, h5, h7]
    unfold cutX at h11
    unfold cutOf
    have e1 := bnd_eq l 0
    have e2 : boundOf (some (some u)) 0 = bndX (some u) 0 := bnd_eq (some u) 0
    have e3 : boundOf (some (some w)) 0 = bndX (some w) 0 := bnd_eq (some w) 0
    split at h11
    · rename_i q1 q2 q3
      simp only [hte, e1, e2, e3, q1, q2, q3]
      cases hd : (C.ty e).d <;> first | (rw [hd] at hoe; cases hoe; done) | exact h11
    · rename_i q1 q2 q3
      simp only [hte, e1, e2, e3, q1, q2, q3]
      cases hd : (C.ty e).d <;> first | (rw [hd] at hoe; cases hoe; done) | exact h11
    · cases h11
  · -- build
    rename_i t parts ho
    obtain ⟨fs, h1, h2⟩ := ob_eq h
    obtain ⟨ps, qs, h3, h4, h5, _⟩ := places_sound h2
    obtain ⟨v, h6, h7⟩ := ob_eq h4
    obtain ⟨cs, h8, h9⟩ := ob_eq h6
    cases h9
    refine gives_pure (by unfold cls; rw [ho]) (by unfold rdOf; rw [ho]) ?_ h7
    unfold pv
    simp only [ho, h3]
    unfold plOf at h1
    split at h1
    · rename_i ht
      cases h1
      unfold buildOf
      simp only [ht, h5, h8, Option.map_some]
    · cases h1
  · rename_i x ho
    obtain ⟨a, h1, h2⟩ := ob_eq h
    obtain ⟨v, h3, h4⟩ := ob_eq h2
    refine gives_pure (v := v) (by unfold cls; rw [ho]) (by unfold rdOf; rw [ho]) ?_ h4
    unfold pv
    simp only [ho, h1]
    unfold nilX at h3
    split at h3 <;> first | exact h3 | cases h3
  · rename_i fn first captured ho
    obtain ⟨a, h1, h2⟩ := evK_sound h
    obtain ⟨b, h3, h4⟩ := evK_sound h2
    refine gives_pure (by unfold cls; rw [ho]) (by unfold rdOf; rw [ho]) ?_ h4
    unfold pv
    simp only [ho, h1, h3]
  · -- alloc
    rename_i t ho
    split at h
    · cases h
    · rename_i hn
      obtain ⟨y, h1, h2⟩ := ob_eq h
      cases h1
      refine gives_alloc (by unfold cls; rw [ho]) (by unfold rdOf; rw [ho]) ?_ h2
      unfold av
      simp only [ho]
  · rename_i t x ho
    obtain ⟨a, h1, h2⟩ := ob_eq h
    obtain ⟨y, h3, h4⟩ := ob_eq h2
    unfold boxX at h3
    split at h3
    · rename_i hf
      cases h3
      refine gives_alloc (by unfold cls; rw [ho]) (by unfold rdOf; rw [ho]) ?_ h4
      unfold av
      simp only [ho, h1]
      rw [if_pos hf]
    · cases h3
  · rename_i t len parts ho
    obtain ⟨e, h1, h2⟩ := ob_eq h
    obtain ⟨hte, hoe⟩ := el_ty h1
    obtain ⟨ps, qs, h3, h4, h5, h6⟩ := places_sound h2
    obtain ⟨y, h7, h8⟩ := ob_eq h4
    unfold bslX at h7
    split at h7
    · rename_i hc
      obtain ⟨cs, h9, h10⟩ := ob_eq h7
      cases h10
      refine gives_alloc (by unfold cls; rw [ho]) (by unfold rdOf; rw [ho]) ?_ h8
      have hall : ps.all (fun p => p.2.cells.toList.all flat) = true := by
        have e1 : ps.all (fun p => p.2.cells.toList.all flat) = (ps.map (·.2)).all (fun v => v.cells.toList.all flat) := by rw [List.all_map]; rfl
        have e2 : qs.all (fun p => p.2.2.cells.toList.all flat) = (qs.map (·.2.2)).all (fun v => v.cells.toList.all flat) := by rw [List.all_map]; rfl
        rw [e1, h6, ← e2]
        exact hc.2
      unfold av
      simp only [ho, hte, h3]
      split
      · rename_i e; rw [e] at hoe; cases hoe
      · rw [if_pos ⟨hc.1, hall⟩, h5, h9]
        rfl
    · cases h7
  · rename_i t l c ho
    obtain ⟨e, h1, h2⟩ := ob_eq h
    obtain ⟨hte, hoe⟩ := el_ty h1
    obtain ⟨a, h3, h4⟩ := ob_eq h2
    obtain ⟨b, h5, h6⟩ := ob_eq h4
    obtain ⟨y, h7, h8⟩ := ob_eq h6
    unfold mkX at h7
    split at h7
    · split at h7
      · rename_i hc
        cases h7
        refine gives_alloc (by unfold cls; rw [ho]) (by unfold rdOf; rw [ho]) ?_ h8
        unfold av
        simp only [ho, hte, h3, h5]
        split
        · rename_i e; rw [e] at hoe; cases hoe
        · rw [if_pos hc]
      · cases h7
    · cases h7
  · -- load
    rename_i t a ho
    obtain ⟨q, h1, h2⟩ := ob_eq h
    obtain ⟨p, h3, h4⟩ := ob_eq h2
    obtain ⟨hoe, hk⟩ := kind_ty h1
    have hcl : cls C o = .read := by unfold cls; rw [ho]
    have hrd : rdOf C T o = rdN p := by unfold rdOf; rw [ho]; simp only [h3]
    rcases hk with ⟨fs, hd, rfl⟩ | ⟨hd, rfl⟩
    · obtain ⟨v, h5, h6⟩ := ob_eq h4
      refine gives_read hcl hrd ?_ h6
      unfold ldS at h5
      unfold rv
      simp only [ho, h3]
      split at h5
      · obtain ⟨cs, h7, h8⟩ := ob_eq h5
        cases h8
        simp only [hd, h7, rdN]
      · split at h5
        · rename_i hsz
          cases h5
          simp only [hd, rdN]
          rw [if_pos hsz]
          have := arr_part ‹Array Value› 0 (C.ty t).size
          simp only [Nat.zero_add, List.drop_zero] at this
          rw [this]
        · cases h5
      · cases h5
    · obtain ⟨v, h5, h6⟩ := ob_eq h4
      refine gives_read hcl hrd ?_ h6
      unfold ld1 at h5
      unfold rv
      simp only [ho, h3]
      split at h5
      · simp only
        split
        · rename_i e; rw [e] at hoe; cases hoe
        · rename_i gs e; exact absurd e (hd gs)
        · rw [h5]; rfl
      · simp only
        split
        · rename_i e; rw [e] at hoe; cases hoe
        · rename_i gs e; exact absurd e (hd gs)
        · rw [Array.getElem?_toList] at h5
          rw [h5]; rfl
      · cases h5
  · rename_i t a x ho
    obtain ⟨q, h1, h2⟩ := ob_eq h
    obtain ⟨p, h3, h4⟩ := ob_eq h2
    obtain ⟨v, h5, h6⟩ := ob_eq h4
    obtain ⟨m', h7, h8⟩ := ob_eq h6
    obtain ⟨hoe, hk⟩ := kind_ty h1
    refine gives_eff (v := .tuple #[]) (m' := m') (by unfold cls; rw [ho]) (by unfold rdOf; rw [ho]) ?_ h8
    unfold wv
    simp only [ho, h3, h5]
    have : storeOf C m t p v = some m' := by
      unfold stX at h7
      unfold storeOf
      split at h7
      · cases hd : (C.ty t).d <;> first | (rw [hd] at hoe; cases hoe; done) | exact h7
      · cases h7
    rw [this]
  · rename_i c ho
    exact call_sound ho h
  · cases h
end
end Go.Ab
namespace Go.Ab
noncomputable section
def mapO (f : Value → Option Value) : List Value → Option (List Value)
  | [] => some []
  | x :: xs => ob (f x) fun y => ob (mapO f xs) fun ys => some (y :: ys)
def rnV : Nat → (Value → Bool) → (Nat → Option Nat) → Value → Option Value
  | 0, _, _, _ => none
  | k + 1, p, π, v => if p v = true then some v else match v with
    | .pointer (some ⟨n, o, none⟩) => ob (π n) fun n' => some (.pointer (some ⟨n', o, none⟩))
    | .slice (some ⟨n, o, none⟩) len cap => ob (π n) fun n' => some (.slice (some ⟨n', o, none⟩) len cap)
    | .agg cs => ob (mapO (rnV k p π) cs.toList) fun xs => some (.agg xs.toArray)
    | .tuple cs => ob (mapO (rnV k p π) cs.toList) fun xs => some (.tuple xs.toArray)
    | .func fn a b => ob (mapO (rnV k p π) a.toList) fun xs => ob (mapO (rnV k p π) b.toList) fun ys => some (.func fn xs.toArray ys.toArray)
    | _ => none
theorem mapO_sound {p : Value → Bool} {π : Nat → Option Nat} {f : Value → Option Value} (hf : ∀ v v', f v = some v' → RN p π v v') : ∀ {vs ys : List Value}, mapO f vs = some ys → RNL p π vs ys
  | [], ys, h => by cases h; exact .nil
  | x :: xs, ys, h => by
    obtain ⟨y, h1, h2⟩ := ob_eq h
    obtain ⟨zs, h3, h4⟩ := ob_eq h2
    cases h4
    exact .cons (hf x y h1) (mapO_sound hf h3)
theorem rnV_sound {p : Value → Bool} {π : Nat → Option Nat} : ∀ (k : Nat) v v', rnV k p π v = some v' → RN p π v v' := by
  intro k
  induction k with
  | zero => intro v v' h; cases h
  | succ k ih =>
    intro v v' h
    unfold rnV at h
    split at h
    · rename_i hp; cases h; exact .inert v hp
    · split at h
      · obtain ⟨n', h1, h2⟩ := ob_eq h; cases h2; exact .ptr _ _ _ h1
      · obtain ⟨n', h1, h2⟩ := ob_eq h; cases h2; exact .sl _ _ _ _ _ h1
      · obtain ⟨xs, h1, h2⟩ := ob_eq h; cases h2
        obtain ⟨e1, e2⟩ := (mapO_sound ih h1).arr
        exact .agg _ _ e1 e2
      · obtain ⟨xs, h1, h2⟩ := ob_eq h; cases h2
        obtain ⟨e1, e2⟩ := (mapO_sound ih h1).arr
        exact .tuple _ _ e1 e2
      · obtain ⟨xs, h1, h2⟩ := ob_eq h
        obtain ⟨ys, h3, h4⟩ := ob_eq h2; cases h4
        obtain ⟨e1, e2⟩ := (mapO_sound ih h1).arr
        obtain ⟨e3, e4⟩ := (mapO_sound ih h3).arr
        exact .func _ _ _ _ _ e1 e2 e3 e4
      · cases h
theorem rnL_sound {p : Value → Bool} {π : Nat → Option Nat} {k : Nat} {vs ys : List Value} (h : mapO (rnV k p π) vs = some ys) : RNL p π vs ys := mapO_sound (rnV_sound k) h
theorem RN.symm {p : Value → Bool} {π π' : Nat → Option Nat} (hπ : ∀ n n', π' n = some n' → π n' = some n) {v v0 : Value} (h : RN p π' v v0) : RN p π v0 v := by
  induction h with
  | inert v hv => exact .inert v hv
  | ptr n n' o hn => exact .ptr n' n o (hπ _ _ hn)
  | sl n n' o len cap hn => exact .sl n' n o len cap (hπ _ _ hn)
  | func fn a a' b b' h1 _ h2 _ ih1 ih2 =>
    exact .func fn a' a b' b h1.symm (fun i x y hx hy => ih1 i y x hy hx) h2.symm (fun i x y hx hy => ih2 i y x hy hx)
  | agg a a' h1 _ ih => exact .agg a' a h1.symm (fun i x y hx hy => ih i y x hy hx)
  | tuple a a' h1 _ ih => exact .tuple a' a h1.symm (fun i x y hx hy => ih i y x hy hx)
theorem RNL.symm {p : Value → Bool} {π π' : Nat → Option Nat} (hπ : ∀ n n', π' n = some n' → π n' = some n) {vs ys : List Value} (h : RNL p π' vs ys) : RNL p π ys vs :=
  ⟨h.1.symm, fun i x y hx hy => (h.2 i y x hy hx).symm hπ⟩
theorem RNL.sub {p : Value → Bool} {π π' : Nat → Option Nat} (hπ : ∀ n n', π n = some n' → π' n = some n') {vs ys : List Value} (h : RNL p π vs ys) : RNL p π' vs ys := by
  have key : ∀ {v v0 : Value}, RN p π v v0 → RN p π' v v0 := by
    intro v v0 h
    induction h with
    | inert v hv => exact .inert v hv
    | ptr n n' o hn => exact .ptr n n' o (hπ _ _ hn)
    | sl n n' o len cap hn => exact .sl n n' o len cap (hπ _ _ hn)
    | func fn a a' b b' h1 _ h2 _ ih1 ih2 => exact .func fn a a' b b' h1 ih1 h2 ih2
    | agg a a' h1 _ ih => exact .agg a a' h1 ih
    | tuple a a' h1 _ ih => exact .tuple a a' h1 ih
  exact ⟨h.1, fun i x y hx hy => key (h.2 i x y hx hy)⟩
def ixOf : List Nat → Nat → Option Nat
  | [], _ => none
  | a :: l, n => if a = n then some 0 else ob (ixOf l n) fun i => some (i + 1)
theorem ixOf_some : ∀ {l : List Nat} {n i : Nat}, ixOf l n = some i → l[i]? = some n
  | [], n, i, h => by cases h
  | a :: l, n, i, h => by
    unfold ixOf at h
    split at h
    · rename_i e; cases h; subst e; rfl
    · obtain ⟨j, h1, h2⟩ := ob_eq h
      cases h2
      rw [List.getElem?_cons_succ]
      exact ixOf_some h1
def nmB (b : Blk) : List Nat := if b.cells.all inert = true then [] else if b.live = true then b.cells.flatMap (nmV 8) else []
def reachF : Nat → Mem → List Nat → List Nat → Option (List Nat)
  | 0, _, _, _ => none
  | _ + 1, _, [], acc => some acc
  | k + 1, m, n :: r, acc => if acc.contains n = true then reachF k m r acc else match m[n]? with
    | some b => reachF k m (r ++ nmB b) (acc ++ [n])
    | none => none
theorem reach_ok {m : Mem} : ∀ {k : Nat} {todo acc res : List Nat}, reachF k m todo acc = some res → acc.Nodup → (∀ n ∈ acc, n < m.length) → res.Nodup ∧ ∀ n ∈ res, n < m.length := by
  intro k
  induction k with
  | zero => intro todo acc res h; cases h
  | succ k ih =>
    intro todo acc res h hn hl
    cases todo with
    | nil => cases h; exact ⟨hn, hl⟩
    | cons n r =>
      simp only [reachF] at h
      split at h
      · exact ih h hn hl
      · rename_i hc
        split at h
        · rename_i b hb
          have hlt := (List.getElem?_eq_some_iff.1 hb).1
          refine ih h ?_ (fun x hx => ?_)
          · rw [List.nodup_append]
            refine ⟨hn, by simp, fun a ha b hb => ?_⟩
            simp only [List.mem_singleton] at hb
            subst hb
            rintro rfl
            exact hc (by simpa using ha)
          · simp only [List.mem_append, List.mem_singleton] at hx
            rcases hx with hx | rfl
            · exact hl x hx
            · exact hlt
        · cases h
def locB (acc : List Nat) (b : Blk) : Option Blk :=
  if b.cells.all inert = true then some b else if b.live = true then ob (mapO (rnV 8 inert (ixOf acc)) b.cells) fun cs => some { b with cells := cs } else some { b with cells := [] }
def locM (m : Mem) (acc : List Nat) : List Nat → Option Mem
  | [] => some []
  | n :: r => match m[n]? with
    | some b => ob (locB acc b) fun b0 => ob (locM m acc r) fun bs => some (b0 :: bs)
    | none => none
theorem ixOf_inv (acc : List Nat) : ∀ n n', ixOf acc n = some n' → (fun i => acc[i]?) n' = some n := fun _ _ h => ixOf_some h
theorem locB_sb {acc : List Nat} {b b0 : Blk} (h : locB acc b = some b0) : SB inert (fun i => acc[i]?) b0 b := by
  unfold locB at h
  split at h
  · rename_i ha
    cases h
    exact ⟨rfl, rfl, rfl, fun _ => .leaf ha⟩
  · split at h
    · obtain ⟨cs, h1, h2⟩ := ob_eq h
      cases h2
      exact ⟨rfl, rfl, rfl, fun _ => (rnL_sound h1).symm (ixOf_inv acc)⟩
    · rename_i hl
      cases h
      exact ⟨rfl, rfl, rfl, fun h => absurd h hl⟩
theorem locM_get {m : Mem} {acc : List Nat} : ∀ {l : List Nat} {m0 : Mem}, locM m acc l = some m0 → m0.length = l.length ∧ ∀ (i : Nat) b0, m0[i]? = some b0 → ∃ n b, l[i]? = some n ∧ m[n]? = some b ∧ locB acc b = some b0
  | [], m0, h => by
    cases h
    exact ⟨rfl, fun i b0 h => by simp at h⟩
  | n :: r, m0, h => by
    simp only [locM] at h
    split at h
    · rename_i b hb
      obtain ⟨b0, h1, h2⟩ := ob_eq h
      obtain ⟨bs, h3, h4⟩ := ob_eq h2
      cases h4
      obtain ⟨e1, e2⟩ := locM_get h3
      refine ⟨by simp [e1], fun i c hc => ?_⟩
      cases i with
      | zero => simp at hc; subst hc; exact ⟨n, b, rfl, hb, h1⟩
      | succ i => simp at hc; exact e2 i c hc
    · cases h
theorem loc_sim {m m0 : Mem} {acc : List Nat} (hn : acc.Nodup) (h : locM m acc acc = some m0) : SimM inert (fun i => acc[i]?) m0 m := by
  obtain ⟨e1, e2⟩ := locM_get h
  refine ⟨fun a b c h1 h2 => ?_, fun n n' h1 => ?_, fun n n' b0 h1 h2 => ?_⟩
  · obtain ⟨i1, j1⟩ := List.getElem?_eq_some_iff.1 h1
    obtain ⟨i2, j2⟩ := List.getElem?_eq_some_iff.1 h2
    exact (List.getElem_inj hn (h₀ := i1) (h₁ := i2)).1 (j1.trans j2.symm)
  · rw [e1]; exact (List.getElem?_eq_some_iff.1 h1).1
  · obtain ⟨x, b, q1, q2, q3⟩ := e2 n b0 h1
    rw [h2] at q1
    cases q1
    exact ⟨b, q2, locB_sb q3⟩
def preB : Nat → Nat → List Nat → Bool
  | _, 0, _ => true
  | i, k + 1, a :: l => a == i && preB (i + 1) k l
  | _, _ + 1, [] => false
theorem preB_get : ∀ {k i : Nat} {l : List Nat}, preB i k l = true → ∀ n, n < k → l[n]? = some (i + n)
  | 0, i, l, _, n, hn => by omega
  | k + 1, i, [], h, n, hn => by cases h
  | k + 1, i, a :: l, h, n, hn => by
    simp only [preB, Bool.and_eq_true, beq_iff_eq] at h
    cases n with
    | zero => simp [h.1]
    | succ n =>
      have := preB_get h.2 n (by omega)
      simp only [List.getElem?_cons_succ, this]
      congr 1
      omega
def isPtr (n : Nat) (v : Value) : Bool :=
  match v with
  | .pointer (some ⟨b, _, none⟩) => b == n
  | _ => false
def entOk (k : Nat) (m : Mem) (pv : List Value) : Bool := (List.range k).all fun n => (match m[n]? with
  | some b => b.cells.all inert
  | none => false) || pv.any (isPtr n)
theorem isPtr_eq {n : Nat} {v : Value} (h : isPtr n v = true) : ∃ o, v = .pointer (some ⟨n, o, none⟩) := by
  unfold isPtr at h
  split at h
  · rename_i b o
    have : b = n := by simpa using h
    subst this
    exact ⟨o, rfl⟩
  · cases h
def pvs (T : Tm) (np : Nat) : List Value := (List.range np).filterMap fun t => T.lookup t
theorem ent_ok {k np : Nat} {m m0 : Mem} {T : Tm} {acc : List Nat} (h : entOk k m (pvs T np) = true) (hp : preB 0 k acc = true) (hm : locM m acc acc = some m0) : Entry k (fun i => acc[i]?) T m0 m := by
  intro n hn
  have h1 : acc[n]? = some n := by have := preB_get hp n hn; rwa [Nat.zero_add] at this
  refine ⟨h1, ?_⟩
  unfold entOk at h
  rw [List.all_eq_true] at h
  have := h n (by simpa using hn)
  simp only [Bool.or_eq_true] at this
  rcases this with h2 | h2
  · left
    obtain ⟨e1, e2⟩ := locM_get hm
    have hlt := (List.getElem?_eq_some_iff.1 h1).1
    obtain ⟨x, b, q1, q2, q3⟩ := e2 n _ (List.getElem?_eq_getElem (by rw [e1]; exact hlt))
    rw [h1] at q1
    cases q1
    rw [q2] at h2
    unfold locB at q3
    simp only at h2
    rw [if_pos h2] at q3
    rw [List.getElem?_eq_getElem (by rw [e1]; exact hlt), q2]
    exact q3.symm
  · right
    rw [List.any_eq_true] at h2
    obtain ⟨v, hv, h3⟩ := h2
    obtain ⟨o, rfl⟩ := isPtr_eq h3
    unfold pvs at hv
    rw [List.mem_filterMap] at hv
    obtain ⟨t, _, ht⟩ := hv
    exact ⟨t, o, ht⟩
def entC (k : Nat) (m : Mem) : Bool := (List.range k).all fun n => match m[n]? with
  | some b => b.live && (b.cells.flatMap (nmV 8)).all fun j => decide (j < k)
  | none => false
theorem mapO_ident {f : Value → Option Value} : ∀ {vs ys : List Value}, (∀ v ∈ vs, ∀ v', f v = some v' → v' = v) → mapO f vs = some ys → ys = vs
  | [], ys, _, h => by cases h; rfl
  | x :: xs, ys, hf, h => by
    obtain ⟨y, h1, h2⟩ := ob_eq h
    obtain ⟨zs, h3, h4⟩ := ob_eq h2
    cases h4
    rw [hf x (by simp) y h1, mapO_ident (fun v hv => hf v (by simp [hv])) h3]
theorem rnV_ident {p : Value → Bool} {π : Nat → Option Nat} : ∀ (k : Nat) v v', (∀ n ∈ nmV k v, π n = some n) → rnV k p π v = some v' → v' = v := by
  intro k
  induction k with
  | zero => intro v v' _ h; cases h
  | succ k ih =>
    intro v v' hn h
    unfold rnV at h
    split at h
    · cases h; rfl
    · split at h
      · rename_i n o _
        obtain ⟨n', h1, h2⟩ := ob_eq h
        rw [hn n (by simp [nmV])] at h1
        cases h1; cases h2; rfl
      · rename_i n o len cap _
        obtain ⟨n', h1, h2⟩ := ob_eq h
        rw [hn n (by simp [nmV])] at h1
        cases h1; cases h2; rfl
      · rename_i cs
        obtain ⟨xs, h1, h2⟩ := ob_eq h
        cases h2
        have := mapO_ident (fun v hv v' h => ih v v' (fun n hm => hn n (by rw [nmV, List.mem_flatMap]; exact ⟨v, hv, hm⟩)) h) h1
        rw [this]
      · rename_i cs
        obtain ⟨xs, h1, h2⟩ := ob_eq h
        cases h2
        have := mapO_ident (fun v hv v' h => ih v v' (fun n hm => hn n (by rw [nmV, List.mem_flatMap]; exact ⟨v, hv, hm⟩)) h) h1
        rw [this]
      · rename_i fn a b
        obtain ⟨xs, h1, h2⟩ := ob_eq h
        obtain ⟨ys, h3, h4⟩ := ob_eq h2
        cases h4
        have e1 := mapO_ident (fun v hv v' h => ih v v' (fun n hm => hn n (by rw [nmV, List.mem_append, List.mem_flatMap, List.mem_flatMap]; exact .inl ⟨v, hv, hm⟩)) h) h1
        have e2 := mapO_ident (fun v hv v' h => ih v v' (fun n hm => hn n (by rw [nmV, List.mem_append, List.mem_flatMap, List.mem_flatMap]; exact .inr ⟨v, hv, hm⟩)) h) h3
        rw [e1, e2]
      · cases h
theorem ixOf_preB : ∀ {k i : Nat} {l : List Nat}, preB i k l = true → ∀ n, n < k → ixOf l (i + n) = some n
  | 0, i, l, _, n, hn => by omega
  | k + 1, i, [], h, n, hn => by cases h
  | k + 1, i, a :: l, h, n, hn => by
    simp only [preB, Bool.and_eq_true, beq_iff_eq] at h
    cases n with
    | zero => unfold ixOf; rw [if_pos (by omega)]
    | succ n =>
      have := ixOf_preB h.2 n (by omega)
      unfold ixOf
      rw [if_neg (by omega), show i + (n + 1) = i + 1 + n by omega, this]
      rfl
theorem ent_ok2 {k np : Nat} {m m0 : Mem} {T : Tm} {acc : List Nat} (h : (entOk k m (pvs T np) || entC k m) = true) (hp : preB 0 k acc = true) (hm : locM m acc acc = some m0) : Entry k (fun i => acc[i]?) T m0 m := by
  rw [Bool.or_eq_true] at h
  rcases h with h | h
  · exact ent_ok h hp hm
  · intro n hn
    have h1 : acc[n]? = some n := by have := preB_get hp n hn; rwa [Nat.zero_add] at this
    refine ⟨h1, .inl ?_⟩
    unfold entC at h
    rw [List.all_eq_true] at h
    have h2 := h n (by simpa using hn)
    obtain ⟨e1, e2⟩ := locM_get hm
    have hlt := (List.getElem?_eq_some_iff.1 h1).1
    obtain ⟨x, b, q1, q2, q3⟩ := e2 n _ (List.getElem?_eq_getElem (by rw [e1]; exact hlt))
    rw [h1] at q1
    cases q1
    rw [q2] at h2
    simp only [Bool.and_eq_true, List.all_eq_true, decide_eq_true_eq] at h2
    rw [List.getElem?_eq_getElem (by rw [e1]; exact hlt), q2]
    unfold locB at q3
    split at q3
    · exact q3.symm
    · rw [if_pos h2.1] at q3
      obtain ⟨cs, r1, r2⟩ := ob_eq q3
      have := mapO_ident (fun v hv v' hh => rnV_ident 8 v v' (fun j hj => by
        have h3 := h2.2 j (List.mem_flatMap.2 ⟨v, hv, hj⟩)
        have := ixOf_preB hp j h3
        rwa [Nat.zero_add] at this) hh) r1
      rw [this] at r2
      rw [← r2]
theorem Run.postE {C : Cfg} {k : Nat} {fn : Func} {todo : List Item} {T : Tm} {m m1 M : Mem} {v V : Value} {π : Nat → Option Nat} (S : SimM inert π M m1) (hv : RN inert π V v)
    (he : ∀ n, n < k → π n = some n ∧ (M[n]? = m1[n]? ∨ ∃ t o, T.lookup t = some (.pointer (some ⟨n, o, none⟩)))) (h : Run C k fn todo T m v m1) : Run C k fn todo T m V M := by
  intro B ι w a b cs R hG hB hT ht hk hN hd
  obtain ⟨w', fr, ι', v', q1, q2, q3, q4, q5, q6, A, q8⟩ := h B ι w a b cs R hG hB hT ht hk hN hd
  have look : ∀ n l, (π n).bind ι'.loc = some l → ∃ n', π n = some n' ∧ ι' n' = some l := by
    intro n l h1
    rw [Option.bind_eq_some_iff] at h1
    exact h1
  refine ⟨w', fr, ι'.via π, v', q1, q2, q3, q4, q5, q6, ?_, hv.back (ι := ι') (ι0 := ι'.via π) (fun _ h => h) rfl (fun n n' l q1 q2 => by show (π n).bind ι'.loc = some l; rw [q1]; exact q2) v' q8⟩
  have hlen : k ≤ M.length := by
    rcases Nat.eq_zero_or_pos k with h0 | h0
    · omega
    · have := S.dom (k - 1) (k - 1) (he (k - 1) (by omega)).1
      omega
  refine { len := hlen, keep := ?_, tight := ?_, rep := SimM.rep (fun _ h => h) S A.rep, frame := A.frame, origin := ?_, alive := ?_, fz := A.fz, ice := A.ice, unreal := ?_, os := A.os, tape := A.tape, output := A.output, size := A.size }
  · intro n hn
    show (π n).bind ι'.loc = ι n
    rw [(he n hn).1]
    exact A.keep n hn
  · intro n hn
    show (π n).bind ι'.loc = none
    cases hp : π n with
    | none => rfl
    | some n' => have := S.dom n n' hp; omega
  · intro n l b h1 h2 h3 h4
    obtain ⟨n', h5, h6⟩ := look n l h2
    obtain ⟨c, h7, s⟩ := S.blk n n' b h3 h5
    have hk' : k ≤ n' := by
      rcases Nat.lt_or_ge n' k with hlt | hge
      · have := S.inj n n' n' h5 (he n' hlt).1
        omega
      · exact hge
    exact A.origin n' l c hk' h6 h7 (by rw [s.live]; exact h4)
  · intro n b' hn hb
    obtain ⟨c, h7, s⟩ := S.blk n n b' hb (he n hn).1
    obtain ⟨b, e1, e2, e3, e4⟩ := A.alive n c hn h7
    exact ⟨b, e1, by rw [← s.es, e2], fun h => e3 (by rw [s.own]; exact h), fun h => e4 (by rw [s.live]; exact h)⟩
  · intro n hn h1
    rcases (he n hn).2 with h2 | ⟨t, o, h2⟩
    · rw [h2]; exact A.unreal n hn h1
    · obtain ⟨v2, _, h4⟩ := hT t _ h2
      cases h4 with
      | ptr _ _ l h5 => rw [h1] at h5; cases h5
end
end Go.Ab
