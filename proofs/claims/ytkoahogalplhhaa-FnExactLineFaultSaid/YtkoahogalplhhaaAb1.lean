/- Part of an own evaluator of Go code on numbered blocks, and of the proof that the machine does what it says; each theorem carries its own conditions. -/
import Derived.Orders
import Derived.LoopN
import Derived.Below
set_option linter.unusedVariables false
set_option linter.unusedSimpArgs false
namespace Go.Ab

/-! ## The evaluator: Go code on numbered blocks, in the order of the text -/

/-- What is told of a type. -/
inductive TD where
  | int (k : IntKind)
  | bool
  | str
  | slice (e : Nat)
  | struct (fs : List (Nat × Nat))
  | ptr
  | func
  | tuple
  | other

structure TI where
  d : TD
  size : Nat
  zero : List Value
  bytes : Nat

def TI.none : TI := { d := .other, size := 0, zero := [], bytes := 0 }

/-- A block of memory: its cells, how many of them an element takes, whether it is the call's own, whether it may still be looked at. -/
structure Blk where
  cells : List Value
  es : Nat
  own : Bool
  live : Bool

abbrev Mem := List Blk
abbrev Tm := List (Nat × Value)

structure Cfg where
  P : Program
  ty : Nat → TI
  /-- so many package variables stand at the head of the memory -/
  G : Nat
  /-- the struct types whose values are compared cell by cell -/
  eqs : List Nat
  /-- the functions that are called on values alone -/
  still : Nat → Bool

/-- A slice that is only read, its elements' cells inline. -/
abbrev roS (len : Nat) (cs : List Value) : Value := .iface len (.agg cs.toArray)
/-- A pointer that is only read through, the cells behind it inline. -/
abbrev roP (cs : List Value) : Value := .iface 0 (.tuple cs.toArray)

def constOk : Value → Bool
  | .bool _ | .int _ _ | .string _ | .pointer none | .slice none 0 0 | .nilFunc => true
  | _ => false

section
variable (C : Cfg)

def ev (T : Tm) : Operand → Option Value
  | .tmp t => T.lookup t
  | .const v => if constOk v then some v else none
  | .global g => if g < C.G then some (.pointer (some ⟨g, 0, none⟩)) else none
  | .func f => some (.func (.func f) #[] #[])

def evL (T : Tm) : List Operand → Option (List Value)
  | [] => some []
  | x :: xs => match ev C T x with
    | none => none
    | some v => match evL T xs with
      | none => none
      | some vs => some (v :: vs)

def intOp (op : BinOp) (k : IntKind) (a b : Int) : Option Value :=
  match op with
  | .add => some (.int k (k.wrap (a + b)))
  | .sub => some (.int k (k.wrap (a - b)))
  | .mul => some (.int k (k.wrap (a * b)))
  | .quo => if b = 0 then none else some (.int k (k.wrap (a.tdiv b)))
  | .rem => if b = 0 then none else some (.int k (a.tmod b))
  | .and => some (.int k (k.wrap (BitVec.ofInt k.bits a &&& BitVec.ofInt k.bits b).toNat))
  | .or => some (.int k (k.wrap (BitVec.ofInt k.bits a ||| BitVec.ofInt k.bits b).toNat))
  | .xor => some (.int k (k.wrap (BitVec.ofInt k.bits a ^^^ BitVec.ofInt k.bits b).toNat))
  | .andNot => some (.int k (k.wrap (BitVec.ofInt k.bits a &&& ~~~(BitVec.ofInt k.bits b)).toNat))
  | .eql => some (.bool (a == b))
  | .neq => some (.bool (a != b))
  | .lss => some (.bool (decide (a < b)))
  | .leq => some (.bool (decide (a ≤ b)))
  | .gtr => some (.bool (decide (a > b)))
  | .geq => some (.bool (decide (a ≥ b)))
  | .shl => none
  | .shr => none

def shiftOp (op : BinOp) (k : IntKind) (a b : Int) : Option Value :=
  if b < 0 then none else
  match op with
  | .shl => some (.int k (k.wrap (a * 2 ^ min b.toNat k.bits)))
  | .shr => some (.int k (a.fdiv (2 ^ min b.toNat k.bits)))
  | _ => none

def strOp (op : BinOp) (a b : ByteArray) : Option Value :=
  match op with
  | .add => if a.size + b.size ≤ 4611686018427387904 then some (.string (a ++ b)) else none
  | .eql => some (.bool (a.toList == b.toList))
  | .neq => some (.bool (!(a.toList == b.toList)))
  | _ => none

/-- Structs whose fields are whole numbers, field by field. -/
def eqF : List (Nat × Nat) → Array Value → Array Value → Option Bool
  | [], _, _ => some true
  | (off, ft) :: fs, xs, ys => match (C.ty ft).d, xs[off]?, ys[off]? with
    | .int _, some (.int k a), some (.int k' b) => if k = k' then (match eqF fs xs ys with
      | some r => some (a == b && r)
      | none => none) else none
    | _, _, _ => none

def eqv (t : Nat) (x y : Value) : Option Bool :=
  match (C.ty t).d with
  | .bool => match x, y with
    | .bool a, .bool b => some (a == b)
    | _, _ => none
  | .ptr => match x, y with
    | .pointer none, .pointer b => some b.isNone
    | .pointer _, .pointer none => some false
    | _, _ => none
  | .func => match x, y with
    | .nilFunc, .nilFunc => some true
    | .nilFunc, .func _ _ _ => some false
    | .func _ _ _, .nilFunc => some false
    | _, _ => none
  | .struct fs => match x, y with
    | .agg xs, .agg ys => if C.eqs.contains t then eqF C fs xs ys else none
    | _, _ => none
  | _ => none

def isShift : BinOp → Bool
  | .shl | .shr => true
  | _ => false

def bop (op : BinOp) (t : Nat) (x y : Value) : Option Value :=
  match x, y with
  | .int k a, .int k' b => if isShift op then shiftOp op k a b else if k = k' then intOp op k a b else none
  | .string a, .string b => strOp op a b
  | x, y => match op with
    | .eql => (eqv C t x y).map .bool
    | .neq => (eqv C t x y).map fun z => .bool (!z)
    | _ => none

def uop (op : UnOp) (x : Value) : Option Value :=
  match op, x with
  | .not, .bool b => some (.bool (!b))
  | .neg, .int k n => some (.int k (k.wrap (0 - n)))
  | _, _ => none

def part (t : Nat) (cs : Array Value) (off : Nat) : Option Value :=
  match (C.ty t).d with
  | .other => none
  | .struct _ => some (.agg (cs.extract off (off + (C.ty t).size)))
  | _ => cs[off]?

def fieldOf (t : Nat) (x : Value) (f : Nat) : Option Value :=
  match (C.ty t).d, x with
  | .struct fs, .agg cs => match fs[f]? with
    | some (off, ft) => part C ft cs off
    | none => none
  | _, _ => none

def fieldAddrOf (t : Nat) (x : Value) (f : Nat) : Option Value :=
  match (C.ty t).d, x with
  | .struct fs, .pointer (some a) => match fs[f]? with
    | some (off, ft) => match (C.ty ft).d with
      | .other => none
      | _ => if (C.ty ft).size = 0 then none else some (.pointer (some ⟨a.block, a.off + off, none⟩))
    | none => none
  | .struct fs, .iface 0 (.tuple cs) => match fs[f]? with
    | some (off, ft) => match (C.ty ft).d with
      | .other => none
      | _ => if (C.ty ft).size = 0 then none else some (roP (cs.toList.drop off))
    | none => none
  | _, _ => none

def indexAddrOf (t : Nat) (x i : Value) : Option Value :=
  match (C.ty t).d, x, i with
  | .slice e, .slice (some a) len _, .int _ j =>
    match (C.ty e).d with
    | .other => none
    | _ => if 0 ≤ j ∧ j < len then some (.pointer (some ⟨a.block, a.off + j.toNat * (C.ty e).size, none⟩)) else none
  | .slice e, .iface len (.agg cs), .int _ j =>
    match (C.ty e).d with
    | .other => none
    | _ => if 0 ≤ j ∧ j < len then some (roP ((cs.toList.drop (j.toNat * (C.ty e).size)).take (C.ty e).size)) else none
  | _, _, _ => none

def indexOf (t : Nat) (x i : Value) : Option Value :=
  match (C.ty t).d, x, i with
  | .str, .string s, .int _ j => if 0 ≤ j then (s[j.toNat]?).map fun b => .int .u8 b.toNat else none
  | _, _, _ => none

def boundOf (v : Option (Option Value)) (dflt : Nat) : Option Nat :=
  match v with
  | none => some dflt
  | some (some (.int _ i)) => if 0 ≤ i then some i.toNat else none
  | _ => none

def sliceIn (es : Nat → Option Nat) (sz : Nat) (a : Option Addr) (len cap : Nat) (lo hi : Option (Option Value)) : Option Value :=
  match boundOf lo 0, boundOf hi len with
  | some l, some h =>
    if l ≤ h ∧ h ≤ cap then
      match a with
      | none => some (.slice none (h - l) (cap - l))
      | some ad => if es ad.block = some sz then some (.slice (some (if cap = l then ad else ⟨ad.block, ad.off + l * sz, none⟩)) (h - l) (cap - l)) else none
    else none
  | _, _ => none

def roPart (sz len : Nat) (cs : Array Value) (lo hi : Option (Option Value)) : Option Value :=
  match boundOf lo 0, boundOf hi len with
  | some l, some h => if l ≤ h ∧ h ≤ len then some (roS (h - l) ((cs.toList.drop (l * sz)).take ((h - l) * sz))) else none
  | _, _ => none

def sliceOf (es : Nat → Option Nat) (t : Nat) (x : Value) (lo hi : Option (Option Value)) : Option Value :=
  match (C.ty t).d, x with
  | .str, .string s => match boundOf lo 0, boundOf hi s.size with
    | some l, some h => if l ≤ h ∧ h ≤ s.size then some (.string (s.extract l h)) else none
    | _, _ => none
  | .slice e, .slice a len cap => match (C.ty e).d with
    | .other => none
    | _ => sliceIn es (C.ty e).size a len cap lo hi
  | .slice e, .iface len (.agg cs) => match (C.ty e).d with
    | .other => none
    | _ => roPart (C.ty e).size len cs lo hi
  | _, _ => none

/-- A slice cut down to nothing, its capacity too. -/
def cutOf (t : Nat) (x : Value) (lo hi mx : Option (Option Value)) : Option Value :=
  match (C.ty t).d, boundOf lo 0, boundOf hi 0, boundOf mx 0 with
  | .slice e, some 0, some 0, some 0 => match (C.ty e).d, x with
    | .other, _ => none
    | _, .slice _ _ _ => some (.slice none 0 0)
    | _, .iface _ (.agg _) => some (.slice none 0 0)
    | _, _ => none
  | _, _, _, _ => none

def splice (l : List Value) (o : Nat) (vs : List Value) : List Value := l.take o ++ vs ++ l.drop (o + vs.length)

/-- Parts laid into cells: each at its offset, of its size. -/
def fillL (place : Nat → Option (Nat × Nat)) (cells : List Value) : List (Nat × Value) → Option (List Value)
  | [] => some cells
  | (i, v) :: rest => match place i with
    | none => none
    | some (off, size) => if v.cells.size = size ∧ off + size ≤ cells.length then fillL place (splice cells off v.cells.toList) rest else none

def evP (T : Tm) : List (Nat × Operand) → Option (List (Nat × Value))
  | [] => some []
  | (i, x) :: xs => match ev C T x with
    | none => none
    | some v => match evP T xs with
      | none => none
      | some vs => some ((i, v) :: vs)

def structPlace (fs : List (Nat × Nat)) (i : Nat) : Option (Nat × Nat) :=
  match fs[i]? with
  | some (off, ft) => match (C.ty ft).d with
    | .other => none
    | _ => some (off, (C.ty ft).size)
  | none => none

def buildOf (t : Nat) (parts : List (Nat × Value)) : Option Value :=
  match (C.ty t).d with
  | .struct fs => (fillL (structPlace C fs) (C.ty t).zero parts).map fun cs => .agg cs.toArray
  | _ => none

def convOf (src dst : Nat) (x : Value) : Option Value :=
  match (C.ty src).d, (C.ty dst).d, x with
  | .int _, .int k, .int _ n => some (.int k (k.wrap n))
  | .str, .str, .string s => some (.string s)
  | _, _, _ => none

def lenOf (t : Nat) (x : Value) : Option Value :=
  match (C.ty t).d, x with
  | .str, .string s => some (.int .i64 s.size)
  | .slice _, .slice _ n _ => some (.int .i64 n)
  | .slice _, .iface n (.agg _) => some (.int .i64 n)
  | _, _ => none

def capOf (t : Nat) (x : Value) : Option Value :=
  match (C.ty t).d, x with
  | .slice _, .slice none _ n => some (.int .i64 n)
  | _, _ => none

def minMax (mx : Bool) : Value → List Value → Option Value
  | .int k x, [] => some (.int k x)
  | .int k x, .int _ y :: rest => minMax mx (.int k (if mx then (if y > x then y else x) else (if y < x then y else x))) rest
  | _, _ => none

/-- Operations that neither read nor write memory. -/
def pv (es : Nat → Option Nat) (T : Tm) (o : Oper) : Option Value :=
  match o.op with
  | .move x => ev C T x
  | .assign x => ev C T x
  | .pick c a b => match ev C T c with
    | some (.bool true) => ev C T a
    | some (.bool false) => ev C T b
    | _ => none
  | .binOp op t x y _ => match ev C T x, ev C T y with
    | some a, some b => bop C op t a b
    | _, _ => none
  | .unOp op _ x => match ev C T x with
    | some a => uop op a
    | none => none
  | .convert src dst x => match ev C T x with
    | some a => convOf C src dst a
    | none => none
  | .extract x i => match ev C T x with
    | some (.tuple vs) => vs[i]?
    | _ => none
  | .field t x f => match ev C T x with
    | some a => fieldOf C t a f
    | none => none
  | .fieldAddr t x f => match ev C T x with
    | some a => fieldAddrOf C t a f
    | none => none
  | .indexAddr t x i => match ev C T x, ev C T i with
    | some a, some j => indexAddrOf C t a j
    | _, _ => none
  | .index t x i => match ev C T x, ev C T i with
    | some a, some j => indexOf C t a j
    | _, _ => none
  | .slice t x lo hi none => match ev C T x with
    | some a => sliceOf C es t a (lo.map (ev C T)) (hi.map (ev C T))
    | none => none
  | .slice t x lo (some hi) (some mx) => match ev C T x with
    | some a => cutOf C t a (lo.map (ev C T)) (some (ev C T hi)) (some (ev C T mx))
    | none => none
  | .build t parts => match evP C T parts.toList with
    | some ps => buildOf C t ps
    | none => none
  | .nilCheck x => match ev C T x with
    | some (.pointer (some a)) => some (.pointer (some a))
    | some (.iface 0 (.tuple cs)) => some (.iface 0 (.tuple cs))
    | _ => none
  | .makeFunc fn first captured => match evL C T first.toList, evL C T captured.toList with
    | some a, some b => some (.func fn a.toArray b.toArray)
    | _, _ => none
  | .call c => match c.callee, evL C T c.args.toList with
    | .builtin .len, some (x :: _) => match c.argTypes[0]? with
      | some t => lenOf C t x
      | none => none
    | .builtin .cap, some (x :: _) => match c.argTypes[0]? with
      | some t => capOf C t x
      | none => none
    | .builtin .min, some (x :: xs) => minMax false x xs
    | .builtin .max, some (x :: xs) => minMax true x xs
    | _, _ => none
  | _ => none

/-! ### Memory -/

def rd (m : Mem) (n o k : Nat) : Option (List Value) :=
  if k = 0 then some [] else
  match m[n]? with
  | some b => if b.live = true ∧ o + k ≤ b.cells.length then some ((b.cells.drop o).take k) else none
  | none => none

def wr (m : Mem) (n o : Nat) (vs : List Value) : Option Mem :=
  if vs = [] then some m else
  match m[n]? with
  | some b => if b.live = true ∧ b.own = true ∧ o + vs.length ≤ b.cells.length then some (m.set n { b with cells := splice b.cells o vs }) else none
  | none => none

/-- The value of one cell. -/
def flat : Value → Bool
  | .agg _ | .tuple _ => false
  | _ => true

/-- The one value that was read. -/
def one : Option (List Value) → Option Value
  | some [v] => some v
  | _ => none

def bytesOf : List Value → Option (List UInt8)
  | [] => some []
  | .int .u8 n :: r => match bytesOf r with
    | some l => some (UInt8.ofNat n.toNat :: l)
    | none => none
  | _ => none

def ofBytes (s : ByteArray) : List Value := s.data.toList.map fun b => .int .u8 b.toNat

/-- Operations that make a block: the value (its block is the next name) and the block. -/
def av (name : Nat) (T : Tm) (o : Oper) : Option (Value × Blk) :=
  match o.op with
  | .alloc t => match (C.ty t).d with
    | .other => none
    | _ => some (.pointer (some ⟨name, 0, none⟩), ⟨(C.ty t).zero, 0, true, true⟩)
  | .box _ x => match ev C T x with
    | some v => if v.cells.toList.all flat then some (.pointer (some ⟨name, 0, none⟩), ⟨v.cells.toList, 0, true, true⟩) else none
    | none => none
  | .buildSlice t len parts => match (C.ty t).d, evP C T parts.toList with
    | .slice e, some ps => match (C.ty e).d with
      | .other => none
      | _ => if len * (C.ty e).size ≤ 16777216 ∧ ps.all (fun p => p.2.cells.toList.all flat) = true then
          (fillL (fun i => some (i * (C.ty e).size, (C.ty e).size)) (List.replicate len (C.ty e).zero).flatten ps).map fun cs => (.slice (some ⟨name, 0, none⟩) len len, ⟨cs, (C.ty e).size, true, true⟩)
        else none
    | _, _ => none
  | .makeSlice t l c => match (C.ty t).d, ev C T l, ev C T c with
    | .slice e, some (.int .i64 l), some (.int .i64 c) => match (C.ty e).d with
      | .other => none
      | _ => if 0 ≤ l ∧ l ≤ c ∧ c * (C.ty e).bytes ≤ 281474976710656 ∧ c ≤ 281474976710656 then
          some (.slice (some ⟨name, 0, none⟩) l.toNat c.toNat, ⟨(List.replicate c.toNat (C.ty e).zero).flatten, (C.ty e).size, true, true⟩)
        else none
    | _, _, _ => none
  | .convert src dst x => match (C.ty src).d, (C.ty dst).d, ev C T x with
    | .str, .slice e, some (.string s) => match (C.ty e).d with
      | .int .u8 => some (.slice (some ⟨name, 0, none⟩) s.size s.size, ⟨ofBytes s, 1, true, true⟩)
      | _ => none
    | _, _, _ => none
  | _ => none

/-- Operations that read memory: the block that is read, and the value. -/
def rv (m : Mem) (T : Tm) (o : Oper) : Option (Option Nat × Value) :=
  match o.op with
  | .load t a => match ev C T a with
    | some (.pointer (some p)) => match (C.ty t).d with
      | .other => none
      | .struct _ => match rd m p.block p.off (C.ty t).size with
        | some cs => some (some p.block, .agg cs.toArray)
        | none => none
      | _ => (one (rd m p.block p.off 1)).map fun v => (some p.block, v)
    | some (.iface 0 (.tuple cs)) => match (C.ty t).d with
      | .other => none
      | .struct _ => if (C.ty t).size ≤ cs.size then some (none, .agg (cs.extract 0 (C.ty t).size)) else none
      | _ => (cs[0]?).map fun v => (none, v)
    | _ => none
  | .convert src dst x => match (C.ty src).d, (C.ty dst).d, ev C T x with
    | .slice e, .str, some (.slice a len _) => match (C.ty e).d with
      | .int .u8 => match a with
        | none => some (none, .string ByteArray.empty)
        | some p => match rd m p.block p.off len with
          | some cs => match bytesOf cs with
            | some l => some (some p.block, .string ⟨l.toArray⟩)
            | none => none
          | none => none
      | _ => none
    | .slice e, .str, some (.iface len (.agg cs)) => match (C.ty e).d with
      | .int .u8 => if cs.size = len then match bytesOf cs.toList with
          | some l => some (none, .string ⟨l.toArray⟩)
          | none => none
        else none
      | _ => none
    | _, _, _ => none
  | _ => none

def newCells (m : Mem) (xt : Nat) (es : Nat) (zero : List Value) (x : Value) : Option (List Value × Nat) :=
  match (C.ty xt).d, x with
  | .int _, .int .i64 n => if 0 ≤ n ∧ n ≤ 140737488355328 then some ((List.replicate n.toNat zero).flatten, n.toNat) else none
  | .slice _, .slice none _ _ => some ([], 0)
  | .slice _, .slice (some p) len _ => (rd m p.block p.off (len * es)).map fun cs => (cs, len)
  | .slice _, .iface len (.agg cs) => if cs.size = len * es then some (cs.toList, len) else none
  | .str, .string s => if es = 1 then some (ofBytes s, s.size) else none
  | _, _ => none

/-- An append always makes a new block; the old one may not be looked at any more. -/
def appendIn (m : Mem) (es bytes : Nat) (s : Value) (cs : List Value) (k : Nat) : Option (Value × Mem) :=
  match s with
  | .slice none 0 0 =>
    if k = 0 then some (.slice none 0 0, m)
    else if k * bytes ≤ 140737488355328 ∧ k ≤ 140737488355328 then
      some (.slice (some ⟨m.length, 0, none⟩) k k, m ++ [⟨cs, es, true, true⟩])
    else none
  | .slice (some p) len _ => match m[p.block]? with
    | some b =>
      if b.live = true ∧ b.own = true ∧ b.es = es ∧ (len + k) * bytes ≤ 140737488355328 ∧ len + k ≤ 140737488355328 then
        match rd m p.block p.off (len * es) with
        | some old => some (.slice (some ⟨m.length, 0, none⟩) (len + k) (len + k), (m.set p.block { b with live := false }) ++ [⟨old ++ cs, es, true, true⟩])
        | none => none
      else none
    | none => none
  | _ => none

def appendOf (m : Mem) (t xt : Nat) (s x : Value) : Option (Value × Mem) :=
  match (C.ty t).d with
  | .slice e => match (C.ty e).d with
    | .other => none
    | _ => match newCells C m xt (C.ty e).size (C.ty e).zero x with
      | none => none
      | some (cs, k) => appendIn m (C.ty e).size (C.ty e).bytes s cs k
  | _ => none

def copyIn (m : Mem) (es : Nat) (a : Option Addr) (dl : Nat) (b : Option Addr) (sl : Nat) : Option (Value × Mem) :=
  match a, b with
  | some p, some q => match rd m q.block q.off (min sl dl * es) with
    | some cs => (wr m p.block p.off cs).map fun m' => (.int .i64 (min sl dl : Nat), m')
    | none => none
  | _, _ => if min sl dl = 0 then some (.int .i64 (min sl dl : Nat), m) else none

def copyStr (m : Mem) (es : Nat) (a : Option Addr) (dl : Nat) (s : ByteArray) : Option (Value × Mem) :=
  match a with
  | some p => if es = 1 then (wr m p.block p.off ((ofBytes s).take (min s.size dl))).map fun m' => (.int .i64 (min s.size dl : Nat), m') else none
  | none => none

def copyRo (m : Mem) (es : Nat) (a : Option Addr) (dl : Nat) (sl : Nat) (cs : List Value) : Option (Value × Mem) :=
  match a with
  | some p => if cs.length = sl * es then (wr m p.block p.off (cs.take (min sl dl * es))).map fun m' => (.int .i64 (min sl dl : Nat), m') else none
  | none => none

def copyAny (m : Mem) (xt es : Nat) (a : Option Addr) (dl : Nat) (src : Value) : Option (Value × Mem) :=
  match (C.ty xt).d, src with
  | .slice _, .slice b sl _ => copyIn m es a dl b sl
  | .slice _, .iface sl (.agg cs) => copyRo m es a dl sl cs.toList
  | .str, .string s => copyStr m es a dl s
  | _, _ => none

def copyOf (m : Mem) (t xt : Nat) (dst src : Value) : Option (Value × Mem) :=
  match (C.ty t).d, dst with
  | .slice e, .slice a dl _ => match (C.ty e).d with
    | .other => none
    | _ => copyAny C m xt (C.ty e).size a dl src
  | _, _ => none

def clearIn (m : Mem) (zero : List Value) (n : Nat) (a : Option Addr) : Option (Value × Mem) :=
  if n = 0 then some (.tuple #[], m) else match a with
    | none => none
    | some p => (wr m p.block p.off (List.replicate n zero).flatten).map fun m' => (.tuple #[], m')

def clearOf (m : Mem) (t : Nat) (x : Value) : Option (Value × Mem) :=
  match (C.ty t).d, x with
  | .slice e, .slice a n _ => match (C.ty e).d with
    | .other => none
    | _ => clearIn m (C.ty e).zero n a
  | _, _ => none

def storeOf (m : Mem) (t : Nat) (a x : Value) : Option Mem :=
  match (C.ty t).d, a with
  | .other, _ => none
  | _, .pointer (some p) => if x.cells.size = (C.ty t).size ∧ x.cells.toList.all flat = true then wr m p.block p.off x.cells.toList else none
  | _, _ => none

abbrev CallF := FuncId → List Value → Mem → Option (Value × Mem)

/-- Operations that may change memory. -/
def wv (call : CallF) (m : Mem) (T : Tm) (o : Oper) : Option (Value × Mem) :=
  match o.op with
  | .store t a x => match ev C T a, ev C T x with
    | some p, some v => match storeOf C m t p v with
      | some m' => some (.tuple #[], m')
      | none => none
    | _, _ => none
  | .call c => match c.callee, evL C T c.args.toList with
    | .builtin .append, some [s, x] => match c.argTypes[0]?, c.argTypes[1]? with
      | some t, some xt => appendOf C m t xt s x
      | _, _ => none
    | .builtin .copy, some [d, s] => match c.argTypes[0]?, c.argTypes[1]? with
      | some t, some xt => copyOf C m t xt d s
      | _, _ => none
    | .builtin .clear, some [x] => match c.argTypes[0]? with
      | some t => clearOf C m t x
      | none => none
    | .value f, some vs => match ev C T f with
      | some (.func (.func g) first captured) => call g (first.toList ++ vs ++ captured.toList) m
      | _ => none
    | _, _ => none
  | _ => none

inductive Cls where
  | pure | alloc | read | eff
  deriving DecidableEq

def cls (o : Oper) : Cls :=
  match o.op with
  | .load _ _ => .read
  | .alloc _ => .alloc
  | .box _ _ => .alloc
  | .buildSlice _ _ _ => .alloc
  | .makeSlice _ _ _ => .alloc
  | .store _ _ _ => .eff
  | .convert src dst _ => match (C.ty src).d, (C.ty dst).d with
    | .slice _, .str => .read
    | .str, .slice _ => .alloc
    | _, _ => .pure
  | .call c => match c.callee with
    | .builtin .len => .pure
    | .builtin .cap => .pure
    | .builtin .min => .pure
    | .builtin .max => .pure
    | _ => .eff
  | _ => .pure

def esOf (m : Mem) (n : Nat) : Option Nat := (m[n]?).map (·.es)

/-- One operation: its value, the memory then, and the block that it has read. -/
def aOp (call : CallF) (T : Tm) (m : Mem) (o : Oper) : Option (Value × Mem × Option Nat) :=
  match cls C o with
  | .pure => match pv C (esOf m) T o with
    | some v => some (v, m, none)
    | none => none
  | .alloc => match av C m.length T o with
    | some (v, b) => some (v, m ++ [b], none)
    | none => none
  | .read => match rv C m T o with
    | some (n, v) => some (v, m, n)
    | none => none
  | .eff => match wv C call m T o with
    | some (v, m') => some (v, m', none)
    | none => none

def putD (T : Tm) (d : Option Tmp) (v : Value) : Tm :=
  match d with
  | some d => (d, v) :: T
  | none => T

def wantedA (ops : List Oper) (T : Tm) (o : Oper) : Option Bool :=
  match o.guard with
  | none => some true
  | some (j, want) => match ops[j]? with
    | some g => match g.dst with
      | some t => match T.lookup t with
        | some (.bool b) => some (b == want)
        | some (.tuple _) => some false
        | _ => none
      | none => none
    | none => none

structure Ev where
  before : Mem
  after : Mem
  name : Option Nat

/-- One operation of a region, if it is wanted. -/
def aStep (call : CallF) (ops : List Oper) (T : Tm) (m : Mem) (o : Oper) : Option (Tm × Mem × Option Nat) :=
  match wantedA ops T o with
  | none => none
  | some false => some (putD T o.dst (.tuple #[]), m, none)
  | some true => match aOp C call T m o with
    | some (v, m', n) => some (putD T o.dst v, m', n)
    | none => none

def aOps (call : CallF) (ops : List Oper) : List Oper → Tm → Mem → Option (List Ev × Tm × Mem)
  | [], T, m => some ([], T, m)
  | o :: os, T, m => match aStep C call ops T m o with
    | none => none
    | some (T', m', n) => match aOps call ops os T' m' with
      | none => none
      | some (E, T2, m2) => some (⟨m, m', n⟩ :: E, T2, m2)

/-! ### A region whose order is drawn -/

def maskOf (acc : List Nat) (es : List Edge) : Nat := es.foldl (fun s e => if Region.binds .any e then s ||| (2 ^ e.on ||| acc.getD e.on 0) else s) 0

/-- For each operation those that come ahead of it in every order, as bits. -/
def masks : List Oper → List Nat → List Nat
  | [], acc => acc
  | o :: os, acc => masks os (acc ++ [maskOf acc o.after.toList])

def ahead (M : List Nat) (i j : Nat) : Bool := (M.getD j 0).testBit i

/-- All pairs of places in a list, each with its operation. -/
def numbered (ops : List Oper) : List (Nat × Oper) := (List.range ops.length).zip ops

/-- Two operations share no temporary, or stand in order. -/
def tmpsOk (ops : List Oper) (M : List Nat) : Bool :=
  (numbered ops).all fun (j, o) => (numbered ops).all fun (i, p) =>
    i == j || (match p.dst with
      | none => true
      | some d => (o.dst != some d) && (!(o.looksAt ops.toArray).contains d || (if i < j then ahead M i j else ahead M j i)))

def effsOk (ops : List Oper) (M : List Nat) : Bool :=
  (numbered ops).all fun (j, o) => cls C o != .eff || (numbered ops).all fun (i, p) => cls C p != .eff || !(i < j) || ahead M i j

def edgesOk (ops : List Oper) : Bool :=
  (numbered ops).all fun (j, o) => o.after.toList.all fun e => !Region.binds .any e || e.on < j

def drawOk (ops : List Oper) : Bool :=
  edgesOk ops && tmpsOk ops (masks ops []) && effsOk C ops (masks ops [])

/-- A load, and what may change memory, whose order is open. -/
def pairsOf (ops : List Oper) : List (Nat × Nat) :=
  (numbered ops).flatMap fun (i, o) => if cls C o = .read then
    (numbered ops).filterMap fun (j, p) => if cls C p = .eff ∧ ((if j < i then ahead (masks ops []) j i else ahead (masks ops []) i j) = false) then some (i, j) else none
  else []

def stab (E : List Ev) (i j : Nat) : Prop :=
  match E[i]?, E[j]? with
  | some a, some b => match a.name with
    | some n => (b.after[n]?).map (fun x => (x.cells, x.live)) = (b.before[n]?).map (fun x => (x.cells, x.live))
    | none => True
  | _, _ => True

def Stable (ops : List Oper) (E : List Ev) : Prop := ∀ p ∈ pairsOf C ops, stab E p.1 p.2

open Classical in
noncomputable def aRegion (call : CallF) (N : Nat) (ops : List Oper) (draw : Bool) (T : Tm) (m : Mem) : Option (Tm × Mem) :=
  if ops.all (fun o => o.dst.all (· < N)) = true then
    match aOps C call ops ops T m with
    | none => none
    | some (E, T', m') => if draw = true then (if drawOk C ops = true ∧ Stable C ops E then some (T', m') else none) else some (T', m')
  else none

/-! ### Code -/

def resOf (m : Mem) (T : Tm) : ResultVar → Option Value
  | .tmp t => T.lookup t
  | .cell a t => match T.lookup a with
    | some (.pointer (some p)) => match (C.ty t).d with
      | .other => none
      | .struct _ => match rd m p.block p.off (C.ty t).size with
        | some cs => some (.agg cs.toArray)
        | none => none
      | _ => one (rd m p.block p.off 1)
    | _ => none

def resL (m : Mem) (T : Tm) : List ResultVar → Option (List Value)
  | [] => some []
  | r :: rs => match resOf C m T r with
    | none => none
    | some v => match resL m T rs with
      | none => none
      | some vs => some (v :: vs)

def resultA (fn : Func) (m : Mem) (T : Tm) : Option Value :=
  match resL C m T fn.results.toList with
  | some [v] => some v
  | some vs => some (.tuple vs.toArray)
  | none => none

def argsT : Nat → List Value → Tm
  | _, [] => []
  | i, v :: vs => (i, v) :: argsT (i + 1) vs

/-! ### Calls on values alone -/

def mapF (f : Value → Option (Value × List Nat)) : List Value → Option (List Value × List Nat)
  | [] => some ([], [])
  | x :: xs => match f x with
    | none => none
    | some (y, a) => match mapF f xs with
      | none => none
      | some (ys, b) => some (y :: ys, a ++ b)

/-- A value with all that it reaches inline, and the blocks that it reaches. -/
def frz : Nat → Mem → Value → Option (Value × List Nat)
  | 0, _, _ => none
  | k + 1, m, v => match v with
    | .agg cs => match mapF (frz k m) cs.toList with
      | some (xs, ns) => some (.agg xs.toArray, ns)
      | none => none
    | .tuple cs => match mapF (frz k m) cs.toList with
      | some (xs, ns) => some (.tuple xs.toArray, ns)
      | none => none
    | .slice none 0 0 => some (roS 0 [], [])
    | .slice (some p) len _ => if len = 0 then some (roS 0 [], []) else
      match m[p.block]? with
      | some b => if b.live = true then match rd m p.block p.off (len * b.es) with
          | some cs => match mapF (frz k m) cs with
            | some (xs, ns) => some (roS len xs, p.block :: ns)
            | none => none
          | none => none
        else none
      | none => none
    | .pointer (some p) => match m[p.block]? with
      | some b => if b.live = true ∧ p.off ≤ b.cells.length then match mapF (frz k m) (b.cells.drop p.off) with
          | some (xs, ns) => some (roP xs, p.block :: ns)
          | none => none
        else none
      | none => none
    | .pointer none => some (.pointer none, [])
    | .func fn a b => if a.size = 0 ∧ b.size = 0 then some (.func fn #[] #[], []) else none
    | .bool b => some (.bool b, [])
    | .int k n => some (.int k n, [])
    | .string s => some (.string s, [])
    | .nilFunc => some (.nilFunc, [])
    | .iface n x => some (.iface n x, [])
    | _ => none

/-- A cell that names no block. -/
def inert : Value → Bool
  | .bool _ | .int _ _ | .string _ | .nilFunc | .pointer none | .slice none 0 0 | .iface _ _ => true
  | _ => false

/-- These blocks are only read from now on. -/
def sealM (m : Mem) : List Nat → Mem
  | [] => m
  | n :: ns => sealM (match m[n]? with
    | some b => m.set n { b with own := false }
    | none => m) ns

def callWith (rn : Func → List Item → Tm → Mem → Option (Value × Mem)) (f : FuncId) (args : List Value) (m : Mem) : Option (Value × Mem) :=
  match C.P.funcs[f]? with
  | none => none
  | some g => match g.body with
    | none => none
    | some c => if args.length ≤ g.ntmps ∧ (g.name == "runtime.NumGoroutine") = false then
        if C.still f = true then
          if C.G ≤ m.length ∧ (m.take C.G).all (fun b => !b.own && b.cells.all inert) = true then
            match mapF (frz 64 m) args with
            | some (as, ns) => match rn g [.code c] (argsT 0 as) (m.take C.G) with
              | some (v, m2) => match frz 64 m2 v with
                | some (v', _) => some (v', sealM m ns)
                | none => none
              | none => none
            | none => none
          else none
        else rn g [.code c] (argsT 0 args) m
      else none

noncomputable def run : Nat → Func → List Item → Tm → Mem → Option (Value × Mem)
  | 0, _, _, _, _ => none
  | k + 1, fn, todo, T, m =>
    match todo with
    | [] => (resultA C fn m T).map fun v => (v, m)
    | .inBlock _ :: rest => run k fn rest T m
    | .inLoop c :: rest => run k fn (.code c :: .inLoop c :: rest) T m
    | .code c :: rest =>
      match c with
      | .skip => run k fn rest T m
      | .ret => (resultA C fn m T).map fun v => (v, m)
      | .seq a b => run k fn (.code a :: .code b :: rest) T m
      | .block id c => run k fn (.code c :: .inBlock id :: rest) T m
      | .loop c => run k fn (.code c :: .inLoop c :: rest) T m
      | .exit id => match exitTo id rest with
        | some rest' => run k fn rest' T m
        | none => none
      | .cond c a b => match ev C T c with
        | some (.bool true) => run k fn (.code a :: rest) T m
        | some (.bool false) => run k fn (.code b :: rest) T m
        | _ => none
      | .region _ ops draw =>
        match aRegion C (callWith C (run k)) fn.ntmps ops.toList draw T m with
        | some (T', m') => run k fn rest T' m'
        | none => none
      | _ => none
    | _ => none

/-- A call of a function. -/
noncomputable def callA (k : Nat) : CallF := callWith C (run C k)
end
end Go.Ab
