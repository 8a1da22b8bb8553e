/- Part of an own evaluator of Go code on numbered blocks, and of the proof that the machine does what it says; each theorem carries its own conditions. -/
import Derived.Orders
import Derived.LoopN
import Derived.Below
import Derived.Laws.AppendOwn
import Derived.Laws.Entries
import Derived.ChangeKeysEq
import Derived.IntWalk
import Derived.Lib.FrozenHead
set_option linter.unusedVariables false
set_option linter.unusedSimpArgs false
namespace Go.Ab
inductive TD where
  | int (k : IntKind)
  | bool
  | str
  | slice (e : Nat)
  | struct (fs : List (Nat × Nat))
  | ptr
  | func
  | tuple
  | other
structure TI where
  d : TD
  size : Nat
  zero : List Value
  bytes : Nat
def TI.none : TI := { d := .other, size := 0, zero := [], bytes := 0 }
structure Blk where
  cells : List Value
  es : Nat
  own : Bool
  live : Bool
abbrev Mem := List Blk
abbrev Tm := List (Nat × Value)
structure Cfg where
  P : Program
  ty : Nat → TI
  /-- so many package variables stand at the head of the memory -/
  G : Nat
  /-- the struct types whose values are compared cell by cell -/
  eqs : List Nat
  /-- the functions that are called on values alone -/
  still : Nat → Bool
  /-- is a literal slice without cells told as one that has no room? -/
  lit0 : Bool
abbrev roS (len : Nat) (cs : List Value) : Value := .iface len (.agg cs.toArray)
abbrev roP (cs : List Value) : Value := .iface 0 (.tuple cs.toArray)
def constOk : Value → Bool
  | .bool _ | .int _ _ | .string _ | .pointer none | .slice none 0 0 | .nilFunc => true
  | _ => false
section
variable (C : Cfg)
def ev (T : Tm) : Operand → Option Value
  | .tmp t => T.lookup t
  | .const v => if constOk v then some v else none
  | .global g => if g < C.G then some (.pointer (some ⟨g, 0, none⟩)) else none
  | .func f => some (.func (.func f) #[] #[])
def evL (T : Tm) : List Operand → Option (List Value)
  | [] => some []
  | x :: xs => match ev C T x with
    | none => none
    | some v => match evL T xs with
      | none => none
      | some vs => some (v :: vs)
def intOp (op : BinOp) (k : IntKind) (a b : Int) : Option Value :=
  match op with
  | .add => some (.int k (k.wrap (a + b)))
  | .sub => some (.int k (k.wrap (a - b)))
  | .mul => some (.int k (k.wrap (a * b)))
  | .quo => if b = 0 then none else some (.int k (k.wrap (a.tdiv b)))
  | .rem => if b = 0 then none else some (.int k (a.tmod b))
  | .and => some (.int k (k.wrap (BitVec.ofInt k.bits a &&& BitVec.ofInt k.bits b).toNat))
  | .or => some (.int k (k.wrap (BitVec.ofInt k.bits a ||| BitVec.ofInt k.bits b).toNat))
  | .xor => some (.int k (k.wrap (BitVec.ofInt k.bits a ^^^ BitVec.ofInt k.bits b).toNat))
  | .andNot => some (.int k (k.wrap (BitVec.ofInt k.bits a &&& ~~~(BitVec.ofInt k.bits b)).toNat))
  | .eql => some (.bool (a == b))
  | .neq => some (.bool (a != b))
  | .lss => some (.bool (decide (a < b)))
  | .leq => some (.bool (decide (a ≤ b)))
  | .gtr => some (.bool (decide (a > b)))
  | .geq => some (.bool (decide (a ≥ b)))
  | .shl => none
  | .shr => none
def shiftOp (op : BinOp) (k : IntKind) (a b : Int) : Option Value :=
  if b < 0 then none else
  match op with
  | .shl => some (.int k (k.wrap (a * 2 ^ min b.toNat k.bits)))
  | .shr => some (.int k (a.fdiv (2 ^ min b.toNat k.bits)))
  | _ => none
def strOp (op : BinOp) (a b : ByteArray) : Option Value :=
  match op with
  | .add => if a.size + b.size ≤ 4611686018427387904 then some (.string (a ++ b)) else none
  | .eql => some (.bool (a.toList == b.toList))
  | .neq => some (.bool (!(a.toList == b.toList)))
  | _ => none
def eqF : List (Nat × Nat) → Array Value → Array Value → Option Bool
  | [], _, _ => some true
  | (off, ft) :: fs, xs, ys => match (C.ty ft).d, xs[off]?, ys[off]? with
    | .int _, some (.int k a), some (.int k' b) => if k = k' then (match eqF fs xs ys with
      | some r => some (a == b && r)
      | none => none) else none
    | _, _, _ => none
def eqv (t : Nat) (x y : Value) : Option Bool :=
  match (C.ty t).d with
  | .bool => match x, y with
    | .bool a, .bool b => some (a == b)
    | _, _ => none
  | .ptr => match x, y with
    | .pointer none, .pointer b => some b.isNone
    | .pointer _, .pointer none => some false
    | _, _ => none
  | .func => match x, y with
    | .nilFunc, .nilFunc => some true
    | .nilFunc, .func _ _ _ => some false
    | .func _ _ _, .nilFunc => some false
    | _, _ => none
  | .struct fs => match x, y with
    | .agg xs, .agg ys => if C.eqs.contains t then eqF C fs xs ys else none
    | _, _ => none
  | _ => none
def isShift : BinOp → Bool
  | .shl | .shr => true
  | _ => false
def bop (op : BinOp) (t : Nat) (x y : Value) : Option Value :=
  match x, y with
  | .int k a, .int k' b => if isShift op then shiftOp op k a b else if k = k' then intOp op k a b else none
  | .string a, .string b => strOp op a b
  | x, y => match op with
    | .eql => (eqv C t x y).map .bool
    | .neq => (eqv C t x y).map fun z => .bool (!z)
    | _ => none
def isNilC : Operand → Bool
  | .const (.slice none 0 0) => true
  | _ => false
def nilOf : Value → Option Bool
  | .slice (some _) _ _ => some false
  | .iface n (.agg _) => if n = 0 then none else some false
  | .float .f64 0 => some true
  | .float .f64 1 => some false
  | _ => none
def nilOp (op : BinOp) (t : Nat) (x : Value) : Option Value :=
  match (C.ty t).d with
  | .slice _ => match op with
    | .eql => (nilOf x).map .bool
    | .neq => (nilOf x).map fun z => .bool (!z)
    | _ => none
  | _ => none
def uop (op : UnOp) (x : Value) : Option Value :=
  match op, x with
  | .not, .bool b => some (.bool (!b))
  | .neg, .int k n => some (.int k (k.wrap (0 - n)))
  | _, _ => none
def part (t : Nat) (cs : Array Value) (off : Nat) : Option Value :=
  match (C.ty t).d with
  | .other => none
  | .struct _ => some (.agg (cs.extract off (off + (C.ty t).size)))
  | _ => cs[off]?
def fieldOf (t : Nat) (x : Value) (f : Nat) : Option Value :=
  match (C.ty t).d, x with
  | .struct fs, .agg cs => match fs[f]? with
    | some (off, ft) => part C ft cs off
    | none => none
  | _, _ => none
def fieldAddrOf (t : Nat) (x : Value) (f : Nat) : Option Value :=
  match (C.ty t).d, x with
  | .struct fs, .pointer (some a) => match fs[f]? with
    | some (off, ft) => match (C.ty ft).d with
      | .other => none
      | _ => if (C.ty ft).size = 0 then none else some (.pointer (some ⟨a.block, a.off + off, none⟩))
    | none => none
  | .struct fs, .iface 0 (.tuple cs) => match fs[f]? with
    | some (off, ft) => match (C.ty ft).d with
      | .other => none
      | _ => if (C.ty ft).size = 0 then none else some (roP (cs.toList.drop off))
    | none => none
  | _, _ => none
def indexAddrOf (t : Nat) (x i : Value) : Option Value :=
  match (C.ty t).d, x, i with
  | .slice e, .slice (some a) len _, .int _ j =>
    match (C.ty e).d with
    | .other => none
    | _ => if 0 ≤ j ∧ j < len then some (.pointer (some ⟨a.block, a.off + j.toNat * (C.ty e).size, none⟩)) else none
  | .slice e, .iface len (.agg cs), .int _ j =>
    match (C.ty e).d with
    | .other => none
    | _ => if 0 ≤ j ∧ j < len then some (roP ((cs.toList.drop (j.toNat * (C.ty e).size)).take (C.ty e).size)) else none
  | _, _, _ => none
def indexOf (t : Nat) (x i : Value) : Option Value :=
  match (C.ty t).d, x, i with
  | .str, .string s, .int _ j => if 0 ≤ j then (s[j.toNat]?).map fun b => .int .u8 b.toNat else none
  | _, _, _ => none
def boundOf (v : Option (Option Value)) (dflt : Nat) : Option Nat :=
  match v with
  | none => some dflt
  | some (some (.int _ i)) => if 0 ≤ i then some i.toNat else none
  | _ => none
def sliceIn (es : Nat → Option Nat) (sz : Nat) (a : Option Addr) (len cap : Nat) (lo hi : Option (Option Value)) : Option Value :=
  match boundOf lo 0, boundOf hi len with
  | some l, some h =>
    if l ≤ h ∧ h ≤ cap then
      match a with
      | none => some (.slice none (h - l) (cap - l))
      | some ad => if es ad.block = some sz then some (.slice (some (if cap = l then ad else ⟨ad.block, ad.off + l * sz, none⟩)) (h - l) (cap - l)) else none
    else none
  | _, _ => none
def roPart (sz len : Nat) (cs : Array Value) (lo hi : Option (Option Value)) : Option Value :=
  match boundOf lo 0, boundOf hi len with
  | some l, some h => if l ≤ h ∧ h ≤ len then some (roS (h - l) ((cs.toList.drop (l * sz)).take ((h - l) * sz))) else none
  | _, _ => none
def sliceOf (es : Nat → Option Nat) (t : Nat) (x : Value) (lo hi : Option (Option Value)) : Option Value :=
  match (C.ty t).d, x with
  | .str, .string s => match boundOf lo 0, boundOf hi s.size with
    | some l, some h => if l ≤ h ∧ h ≤ s.size then some (.string (s.extract l h)) else none
    | _, _ => none
  | .slice e, .slice a len cap => match (C.ty e).d with
    | .other => none
    | _ => sliceIn es (C.ty e).size a len cap lo hi
  | .slice e, .iface len (.agg cs) => match (C.ty e).d with
    | .other => none
    | _ => roPart (C.ty e).size len cs lo hi
  | _, _ => none
def cutOf (t : Nat) (x : Value) (lo hi mx : Option (Option Value)) : Option Value :=
  match (C.ty t).d, boundOf lo 0, boundOf hi 0, boundOf mx 0 with
  | .slice e, some 0, some 0, some 0 => match (C.ty e).d, x with
    | .other, _ => none
    | _, .slice _ _ _ => some (.slice none 0 0)
    | _, .iface _ (.agg _) => some (.slice none 0 0)
    | _, _ => none
  | _, _, _, _ => none
def splice (l : List Value) (o : Nat) (vs : List Value) : List Value := l.take o ++ vs ++ l.drop (o + vs.length)
def lay : List Value → Nat → List Value → List Value
  | [], _, _ => []
  | x :: xs, _, [] => x :: xs
  | _ :: xs, 0, v :: vs => v :: lay xs 0 vs
  | x :: xs, o + 1, v :: vs => x :: lay xs o (v :: vs)
theorem lay_nil : ∀ (l : List Value) (o : Nat), lay l o [] = l
  | [], _ => by simp [lay]
  | x :: xs, o => by simp [lay]
theorem lay_eq : ∀ (l : List Value) (o : Nat) (vs : List Value), o + vs.length ≤ l.length → lay l o vs = splice l o vs
  | [], o, vs, h => by
    have h1 : o = 0 := by simp only [List.length_nil] at h; omega
    have h2 : vs = [] := List.eq_nil_of_length_eq_zero (by simp only [List.length_nil] at h; omega)
    subst h1 h2
    rfl
  | x :: xs, o, [], h => by
    rw [lay_nil]
    simp [splice]
  | x :: xs, 0, v :: vs, h => by
    have := lay_eq xs 0 vs (by simp at h ⊢; omega)
    simp only [lay, this]
    simp [splice]
  | x :: xs, o + 1, v :: vs, h => by
    have := lay_eq xs o (v :: vs) (by simp at h ⊢; omega)
    simp only [lay, this]
    simp only [splice, List.take_succ_cons, List.cons_append, List.length_cons]
    rw [show o + 1 + (vs.length + 1) = (o + (vs.length + 1)) + 1 by omega, List.drop_succ_cons]
def fillL (place : Nat → Option (Nat × Nat)) (cells : List Value) : List (Nat × Value) → Option (List Value)
  | [] => some cells
  | (i, v) :: rest => match place i with
    | none => none
    | some (off, size) => if v.cells.size = size ∧ off + size ≤ cells.length then fillL place (lay cells off v.cells.toList) rest else none
theorem fillL_cons {place : Nat → Option (Nat × Nat)} {cells : List Value} {i : Nat} {v : Value} {rest : List (Nat × Value)} : fillL place cells ((i, v) :: rest) = match place i with
    | none => none
    | some (off, size) => if v.cells.size = size ∧ off + size ≤ cells.length then fillL place (splice cells off v.cells.toList) rest else none := by
  simp only [fillL]
  cases place i with
  | none => rfl
  | some p =>
    obtain ⟨off, size⟩ := p
    simp only
    by_cases h : v.cells.size = size ∧ off + size ≤ cells.length
    · rw [if_pos h, if_pos h, lay_eq _ _ _ (by rw [Array.length_toList]; omega)]
    · rw [if_neg h, if_neg h]
def evP (T : Tm) : List (Nat × Operand) → Option (List (Nat × Value))
  | [] => some []
  | (i, x) :: xs => match ev C T x with
    | none => none
    | some v => match evP T xs with
      | none => none
      | some vs => some ((i, v) :: vs)
def structPlace (fs : List (Nat × Nat)) (i : Nat) : Option (Nat × Nat) :=
  match fs[i]? with
  | some (off, ft) => match (C.ty ft).d with
    | .other => none
    | _ => some (off, (C.ty ft).size)
  | none => none
def buildOf (t : Nat) (parts : List (Nat × Value)) : Option Value :=
  match (C.ty t).d with
  | .struct fs => (fillL (structPlace C fs) (C.ty t).zero parts).map fun cs => .agg cs.toArray
  | _ => none
def convOf (src dst : Nat) (x : Value) : Option Value :=
  match (C.ty src).d, (C.ty dst).d, x with
  | .int _, .int k, .int _ n => some (.int k (k.wrap n))
  | .str, .str, .string s => some (.string s)
  | _, _, _ => none
def lenOf (t : Nat) (x : Value) : Option Value :=
  match (C.ty t).d, x with
  | .str, .string s => some (.int .i64 s.size)
  | .slice _, .slice _ n _ => some (.int .i64 n)
  | .slice _, .iface n (.agg _) => some (.int .i64 n)
  | _, _ => none
def capOf (t : Nat) (x : Value) : Option Value :=
  match (C.ty t).d, x with
  | .slice _, .slice none _ n => some (.int .i64 n)
  | _, _ => none
def minMax (mx : Bool) : Value → List Value → Option Value
  | .int k x, [] => some (.int k x)
  | .int k x, .int _ y :: rest => minMax mx (.int k (if mx then (if y > x then y else x) else (if y < x then y else x))) rest
  | _, _ => none
def pv (es : Nat → Option Nat) (T : Tm) (o : Oper) : Option Value :=
  match o.op with
  | .move x => ev C T x
  | .assign x => ev C T x
  | .pick c a b => match ev C T c with
    | some (.bool true) => ev C T a
    | some (.bool false) => ev C T b
    | _ => none
  | .binOp op t x y _ => if isNilC y = true then (match ev C T x with
      | some a => nilOp C op t a
      | none => none) else match ev C T x, ev C T y with
    | some a, some b => bop C op t a b
    | _, _ => none
  | .unOp op _ x => match ev C T x with
    | some a => uop op a
    | none => none
  | .convert src dst x => match ev C T x with
    | some a => convOf C src dst a
    | none => none
  | .extract x i => match ev C T x with
    | some (.tuple vs) => vs[i]?
    | _ => none
  | .field t x f => match ev C T x with
    | some a => fieldOf C t a f
    | none => none
  | .fieldAddr t x f => match ev C T x with
    | some a => fieldAddrOf C t a f
    | none => none
  | .indexAddr t x i => match ev C T x, ev C T i with
    | some a, some j => indexAddrOf C t a j
    | _, _ => none
  | .index t x i => match ev C T x, ev C T i with
    | some a, some j => indexOf C t a j
    | _, _ => none
  | .slice t x lo hi none => match ev C T x with
    | some a => sliceOf C es t a (lo.map (ev C T)) (hi.map (ev C T))
    | none => none
  | .slice t x lo (some hi) (some mx) => match ev C T x with
    | some a => cutOf C t a (lo.map (ev C T)) (some (ev C T hi)) (some (ev C T mx))
    | none => none
  | .build t parts => match evP C T parts.toList with
    | some ps => buildOf C t ps
    | none => none
  | .nilCheck x => match ev C T x with
    | some (.pointer (some a)) => some (.pointer (some a))
    | some (.iface 0 (.tuple cs)) => some (.iface 0 (.tuple cs))
    | _ => none
  | .makeFunc fn first captured => match evL C T first.toList, evL C T captured.toList with
    | some a, some b => some (.func fn a.toArray b.toArray)
    | _, _ => none
  | .call c => match c.callee, evL C T c.args.toList with
    | .builtin .len, some (x :: _) => match c.argTypes[0]? with
      | some t => lenOf C t x
      | none => none
    | .builtin .cap, some (x :: _) => match c.argTypes[0]? with
      | some t => capOf C t x
      | none => none
    | .builtin .min, some (x :: xs) => minMax false x xs
    | .builtin .max, some (x :: xs) => minMax true x xs
    | _, _ => none
  | _ => none
def rd (m : Mem) (n o k : Nat) : Option (List Value) :=
  if k = 0 then some [] else
  match m[n]? with
  | some b => if b.live = true ∧ o + k ≤ b.cells.length then some ((b.cells.drop o).take k) else none
  | none => none
def wr (m : Mem) (n o : Nat) (vs : List Value) : Option Mem :=
  if vs = [] then some m else
  match m[n]? with
  | some b => if b.live = true ∧ b.own = true ∧ o + vs.length ≤ b.cells.length then some (m.set n { b with cells := splice b.cells o vs }) else none
  | none => none
def flat : Value → Bool
  | .agg _ | .tuple _ => false
  | _ => true
def one : Option (List Value) → Option Value
  | some [v] => some v
  | _ => none
def bytesOf : List Value → Option (List UInt8)
  | [] => some []
  | .int .u8 n :: r => match bytesOf r with
    | some l => some (UInt8.ofNat n.toNat :: l)
    | none => none
  | _ => none
def ofBytes (s : ByteArray) : List Value := s.data.toList.map fun b => .int .u8 b.toNat
def lit0V (C : Cfg) (name len : Nat) : Value := cond (C.lit0 && Nat.beq len 0) (.slice none 0 0) (.slice (some ⟨name, 0, none⟩) len len)
def av (name : Nat) (T : Tm) (o : Oper) : Option (Value × Blk) :=
  match o.op with
  | .alloc t => match (C.ty t).d with
    | .other => none
    | _ => some (.pointer (some ⟨name, 0, none⟩), ⟨(C.ty t).zero, 0, true, true⟩)
  | .box _ x => match ev C T x with
    | some v => if v.cells.toList.all flat then some (.pointer (some ⟨name, 0, none⟩), ⟨v.cells.toList, 0, true, true⟩) else none
    | none => none
  | .buildSlice t len parts => match (C.ty t).d, evP C T parts.toList with
    | .slice e, some ps => match (C.ty e).d with
      | .other => none
      | _ => if len * (C.ty e).size ≤ 16777216 ∧ ps.all (fun p => p.2.cells.toList.all flat) = true then
          (fillL (fun i => some (i * (C.ty e).size, (C.ty e).size)) (List.replicate len (C.ty e).zero).flatten ps).map fun cs => (lit0V C name len, ⟨cs, (C.ty e).size, true, true⟩)
        else none
    | _, _ => none
  | .makeSlice t l c => match (C.ty t).d, ev C T l, ev C T c with
    | .slice e, some (.int .i64 l), some (.int .i64 c) => match (C.ty e).d with
      | .other => none
      | _ => if 0 ≤ l ∧ l ≤ c ∧ c * (C.ty e).bytes ≤ 281474976710656 ∧ c ≤ 281474976710656 then
          some (.slice (some ⟨name, 0, none⟩) l.toNat c.toNat, ⟨(List.replicate c.toNat (C.ty e).zero).flatten, (C.ty e).size, true, true⟩)
        else none
    | _, _, _ => none
  | .convert src dst x => match (C.ty src).d, (C.ty dst).d, ev C T x with
    | .str, .slice e, some (.string s) => match (C.ty e).d with
      | .int .u8 => some (.slice (some ⟨name, 0, none⟩) s.size s.size, ⟨ofBytes s, 1, true, true⟩)
      | _ => none
    | _, _, _ => none
  | _ => none
def rv (m : Mem) (T : Tm) (o : Oper) : Option (Option Nat × Value) :=
  match o.op with
  | .load t a => match ev C T a with
    | some (.pointer (some p)) => match (C.ty t).d with
      | .other => none
      | .struct _ => match rd m p.block p.off (C.ty t).size with
        | some cs => some (some p.block, .agg cs.toArray)
        | none => none
      | _ => (one (rd m p.block p.off 1)).map fun v => (some p.block, v)
    | some (.iface 0 (.tuple cs)) => match (C.ty t).d with
      | .other => none
      | .struct _ => if (C.ty t).size ≤ cs.size then some (none, .agg (cs.extract 0 (C.ty t).size)) else none
      | _ => (cs[0]?).map fun v => (none, v)
    | _ => none
  | .convert src dst x => match (C.ty src).d, (C.ty dst).d, ev C T x with
    | .slice e, .str, some (.slice a len _) => match (C.ty e).d with
      | .int .u8 => match a with
        | none => some (none, .string ByteArray.empty)
        | some p => match rd m p.block p.off len with
          | some cs => match bytesOf cs with
            | some l => some (some p.block, .string ⟨l.toArray⟩)
            | none => none
          | none => none
      | _ => none
    | .slice e, .str, some (.iface len (.agg cs)) => match (C.ty e).d with
      | .int .u8 => if cs.size = len then match bytesOf cs.toList with
          | some l => some (none, .string ⟨l.toArray⟩)
          | none => none
        else none
      | _ => none
    | _, _, _ => none
  | _ => none
def newCells (m : Mem) (xt : Nat) (es : Nat) (zero : List Value) (x : Value) : Option (List Value × Nat) :=
  match (C.ty xt).d, x with
  | .int _, .int .i64 n => if 0 ≤ n ∧ n ≤ 140737488355328 then some ((List.replicate n.toNat zero).flatten, n.toNat) else none
  | .slice _, .slice none _ _ => some ([], 0)
  | .slice _, .float .f64 1 => some ([], 0)
  | .slice _, .slice (some p) len _ => (rd m p.block p.off (len * es)).map fun cs => (cs, len)
  | .slice _, .iface len (.agg cs) => if cs.size = len * es then some (cs.toList, len) else none
  | .str, .string s => if es = 1 then some (ofBytes s, s.size) else none
  | _, _ => none
def appendIn (m : Mem) (es bytes : Nat) (s : Value) (cs : List Value) (k : Nat) : Option (Value × Mem) :=
  match s with
  | .slice none 0 0 =>
    if k = 0 then some (.slice none 0 0, m)
    else if k * bytes ≤ 140737488355328 ∧ k ≤ 140737488355328 then
      some (.slice (some ⟨m.length, 0, none⟩) k k, m ++ [⟨cs, es, true, true⟩])
    else none
  | .slice (some p) len _ => match m[p.block]? with
    | some b =>
      if b.live = true ∧ b.own = true ∧ b.es = es ∧ (len + k) * bytes ≤ 140737488355328 ∧ len + k ≤ 140737488355328 then
        match rd m p.block p.off (len * es) with
        | some old => some (.slice (some ⟨m.length, 0, none⟩) (len + k) (len + k), (m.set p.block { b with live := false }) ++ [⟨old ++ cs, es, true, true⟩])
        | none => none
      else none
    | none => none
  | _ => none
def appendOf (m : Mem) (t xt : Nat) (s x : Value) : Option (Value × Mem) :=
  match (C.ty t).d with
  | .slice e => match (C.ty e).d with
    | .other => none
    | _ => match newCells C m xt (C.ty e).size (C.ty e).zero x with
      | none => none
      | some (cs, k) => appendIn m (C.ty e).size (C.ty e).bytes s cs k
  | _ => none
def copyIn (m : Mem) (es : Nat) (a : Option Addr) (dl : Nat) (b : Option Addr) (sl : Nat) : Option (Value × Mem) :=
  match a, b with
  | some p, some q => match rd m q.block q.off (min sl dl * es) with
    | some cs => (wr m p.block p.off cs).map fun m' => (.int .i64 (min sl dl : Nat), m')
    | none => none
  | _, _ => if min sl dl = 0 then some (.int .i64 (min sl dl : Nat), m) else none
def copyStr (m : Mem) (es : Nat) (a : Option Addr) (dl : Nat) (s : ByteArray) : Option (Value × Mem) :=
  match a with
  | some p => if es = 1 then (wr m p.block p.off ((ofBytes s).take (min s.size dl))).map fun m' => (.int .i64 (min s.size dl : Nat), m') else none
  | none => none
def copyRo (m : Mem) (es : Nat) (a : Option Addr) (dl : Nat) (sl : Nat) (cs : List Value) : Option (Value × Mem) :=
  match a with
  | some p => if cs.length = sl * es then (wr m p.block p.off (cs.take (min sl dl * es))).map fun m' => (.int .i64 (min sl dl : Nat), m') else none
  | none => none
def copyAny (m : Mem) (xt es : Nat) (a : Option Addr) (dl : Nat) (src : Value) : Option (Value × Mem) :=
  match (C.ty xt).d, src with
  | .slice _, .slice b sl _ => copyIn m es a dl b sl
  | .slice _, .iface sl (.agg cs) => copyRo m es a dl sl cs.toList
  | .str, .string s => copyStr m es a dl s
  | _, _ => none
def copyOf (m : Mem) (t xt : Nat) (dst src : Value) : Option (Value × Mem) :=
  match (C.ty t).d, dst with
  | .slice e, .slice a dl _ => match (C.ty e).d with
    | .other => none
    | _ => copyAny C m xt (C.ty e).size a dl src
  | _, _ => none
def clearIn (m : Mem) (zero : List Value) (n : Nat) (a : Option Addr) : Option (Value × Mem) :=
  if n = 0 then some (.tuple #[], m) else match a with
    | none => none
    | some p => (wr m p.block p.off (List.replicate n zero).flatten).map fun m' => (.tuple #[], m')
def clearOf (m : Mem) (t : Nat) (x : Value) : Option (Value × Mem) :=
  match (C.ty t).d, x with
  | .slice e, .slice a n _ => match (C.ty e).d with
    | .other => none
    | _ => clearIn m (C.ty e).zero n a
  | _, _ => none
def storeOf (m : Mem) (t : Nat) (a x : Value) : Option Mem :=
  match (C.ty t).d, a with
  | .other, _ => none
  | _, .pointer (some p) => if x.cells.size = (C.ty t).size ∧ x.cells.toList.all flat = true then wr m p.block p.off x.cells.toList else none
  | _, _ => none
abbrev CallF := FuncId → List Value → Mem → Option (Value × Mem)
def wv (call : CallF) (m : Mem) (T : Tm) (o : Oper) : Option (Value × Mem) :=
  match o.op with
  | .store t a x => match ev C T a, ev C T x with
    | some p, some v => match storeOf C m t p v with
      | some m' => some (.tuple #[], m')
      | none => none
    | _, _ => none
  | .call c => match c.callee, evL C T c.args.toList with
    | .builtin .append, some [s, x] => match c.argTypes[0]?, c.argTypes[1]? with
      | some t, some xt => appendOf C m t xt s x
      | _, _ => none
    | .builtin .copy, some [d, s] => match c.argTypes[0]?, c.argTypes[1]? with
      | some t, some xt => copyOf C m t xt d s
      | _, _ => none
    | .builtin .clear, some [x] => match c.argTypes[0]? with
      | some t => clearOf C m t x
      | none => none
    | .value f, some vs => match ev C T f with
      | some (.func (.func g) first captured) => call g (first.toList ++ vs ++ captured.toList) m
      | _ => none
    | _, _ => none
  | _ => none
inductive Cls where
  | pure | alloc | read | eff
  deriving DecidableEq
def cls (o : Oper) : Cls :=
  match o.op with
  | .load _ _ => .read
  | .alloc _ => .alloc
  | .box _ _ => .alloc
  | .buildSlice _ _ _ => .alloc
  | .makeSlice _ _ _ => .alloc
  | .store _ _ _ => .eff
  | .convert src dst _ => match (C.ty src).d, (C.ty dst).d with
    | .slice _, .str => .read
    | .str, .slice _ => .alloc
    | _, _ => .pure
  | .call c => match c.callee with
    | .builtin .len => .pure
    | .builtin .cap => .pure
    | .builtin .min => .pure
    | .builtin .max => .pure
    | _ => .eff
  | _ => .pure
def esOf (m : Mem) (n : Nat) : Option Nat := (m[n]?).map (·.es)
def aOp (call : CallF) (T : Tm) (m : Mem) (o : Oper) : Option (Value × Mem × Option Nat) :=
  match cls C o with
  | .pure => match pv C (esOf m) T o with
    | some v => some (v, m, none)
    | none => none
  | .alloc => match av C m.length T o with
    | some (v, b) => some (v, m ++ [b], none)
    | none => none
  | .read => match rv C m T o with
    | some (n, v) => some (v, m, n)
    | none => none
  | .eff => match wv C call m T o with
    | some (v, m') => some (v, m', none)
    | none => none
def putD (T : Tm) (d : Option Tmp) (v : Value) : Tm :=
  match d with
  | some d => (d, v) :: T
  | none => T
def wantedA (ops : List Oper) (T : Tm) (o : Oper) : Option Bool :=
  match o.guard with
  | none => some true
  | some (j, want) => match ops[j]? with
    | some g => match g.dst with
      | some t => match T.lookup t with
        | some (.bool b) => some (b == want)
        | some (.tuple _) => some false
        | _ => none
      | none => none
    | none => none
structure Ev where
  before : Mem
  after : Mem
  name : Option Nat
def aStep (call : CallF) (ops : List Oper) (T : Tm) (m : Mem) (o : Oper) : Option (Tm × Mem × Option Nat) :=
  match wantedA ops T o with
  | none => none
  | some false => some (putD T o.dst (.tuple #[]), m, none)
  | some true => match aOp C call T m o with
    | some (v, m', n) => some (putD T o.dst v, m', n)
    | none => none
def aOps (call : CallF) (ops : List Oper) : List Oper → Tm → Mem → Option (List Ev × Tm × Mem)
  | [], T, m => some ([], T, m)
  | o :: os, T, m => match aStep C call ops T m o with
    | none => none
    | some (T', m', n) => match aOps call ops os T' m' with
      | none => none
      | some (E, T2, m2) => some (⟨m, m', n⟩ :: E, T2, m2)
def maskOf (acc : List Nat) (es : List Edge) : Nat := es.foldl (fun s e => if Region.binds .any e then s ||| (2 ^ e.on ||| acc.getD e.on 0) else s) 0
def masks : List Oper → List Nat → List Nat
  | [], acc => acc
  | o :: os, acc => masks os (acc ++ [maskOf acc o.after.toList])
def ahead (M : List Nat) (i j : Nat) : Bool := (M.getD j 0).testBit i
def numbered (ops : List Oper) : List (Nat × Oper) := (List.range ops.length).zip ops
def tmpsOk (ops : List Oper) (M : List Nat) : Bool :=
  (numbered ops).all fun (j, o) => (numbered ops).all fun (i, p) =>
    i == j || (match p.dst with
      | none => true
      | some d => (o.dst != some d) && (!(o.looksAt ops.toArray).contains d || (if i < j then ahead M i j else ahead M j i)))
def effsOk (ops : List Oper) (M : List Nat) : Bool :=
  (numbered ops).all fun (j, o) => cls C o != .eff || (numbered ops).all fun (i, p) => cls C p != .eff || !(i < j) || ahead M i j
def edgesOk (ops : List Oper) : Bool :=
  (numbered ops).all fun (j, o) => o.after.toList.all fun e => !Region.binds .any e || e.on < j
def drawOk (ops : List Oper) : Bool :=
  edgesOk ops && tmpsOk ops (masks ops []) && effsOk C ops (masks ops [])
def pairsOf (ops : List Oper) : List (Nat × Nat) :=
  (numbered ops).flatMap fun (i, o) => if cls C o = .read then
    (numbered ops).filterMap fun (j, p) => if cls C p = .eff ∧ ((if j < i then ahead (masks ops []) j i else ahead (masks ops []) i j) = false) then some (i, j) else none
  else []
def stab (E : List Ev) (i j : Nat) : Prop :=
  match E[i]?, E[j]? with
  | some a, some b => match a.name with
    | some n => (b.after[n]?).map (fun x => (x.cells, x.live)) = (b.before[n]?).map (fun x => (x.cells, x.live))
    | none => True
  | _, _ => True
def Stable (ops : List Oper) (E : List Ev) : Prop := ∀ p ∈ pairsOf C ops, stab E p.1 p.2
open Classical in
noncomputable def aRegion (call : CallF) (N : Nat) (ops : List Oper) (draw : Bool) (T : Tm) (m : Mem) : Option (Tm × Mem) :=
  if ops.all (fun o => o.dst.all (· < N)) = true then
    match aOps C call ops ops T m with
    | none => none
    | some (E, T', m') => if draw = true then (if drawOk C ops = true ∧ Stable C ops E then some (T', m') else none) else some (T', m')
  else none
def resOf (m : Mem) (T : Tm) : ResultVar → Option Value
  | .tmp t => T.lookup t
  | .cell a t => match T.lookup a with
    | some (.pointer (some p)) => match (C.ty t).d with
      | .other => none
      | .struct _ => match rd m p.block p.off (C.ty t).size with
        | some cs => some (.agg cs.toArray)
        | none => none
      | _ => one (rd m p.block p.off 1)
    | _ => none
def resL (m : Mem) (T : Tm) : List ResultVar → Option (List Value)
  | [] => some []
  | r :: rs => match resOf C m T r with
    | none => none
    | some v => match resL m T rs with
      | none => none
      | some vs => some (v :: vs)
def resultA (fn : Func) (m : Mem) (T : Tm) : Option Value :=
  match resL C m T fn.results.toList with
  | some [v] => some v
  | some vs => some (.tuple vs.toArray)
  | none => none
def argsT : Nat → List Value → Tm
  | _, [] => []
  | i, v :: vs => (i, v) :: argsT (i + 1) vs
def mapF (f : Value → Option (Value × List Nat)) : List Value → Option (List Value × List Nat)
  | [] => some ([], [])
  | x :: xs => match f x with
    | none => none
    | some (y, a) => match mapF f xs with
      | none => none
      | some (ys, b) => some (y :: ys, a ++ b)
def frz : Nat → Mem → Value → Option (Value × List Nat)
  | 0, _, _ => none
  | k + 1, m, v => match v with
    | .agg cs => match mapF (frz k m) cs.toList with
      | some (xs, ns) => some (.agg xs.toArray, ns)
      | none => none
    | .tuple cs => match mapF (frz k m) cs.toList with
      | some (xs, ns) => some (.tuple xs.toArray, ns)
      | none => none
    | .slice none 0 0 => some (roS 0 [], [])
    | .slice (some p) len _ => if len = 0 then some (roS 0 [], []) else
      match m[p.block]? with
      | some b => if b.live = true then match rd m p.block p.off (len * b.es) with
          | some cs => match mapF (frz k m) cs with
            | some (xs, ns) => some (roS len xs, p.block :: ns)
            | none => none
          | none => none
        else none
      | none => none
    | .pointer (some p) => match m[p.block]? with
      | some b => if b.live = true ∧ p.off ≤ b.cells.length then match mapF (frz k m) (b.cells.drop p.off) with
          | some (xs, ns) => some (roP xs, p.block :: ns)
          | none => none
        else none
      | none => none
    | .pointer none => some (.pointer none, [])
    | .func fn a b => if a.size = 0 ∧ b.size = 0 then some (.func fn #[] #[], []) else none
    | .bool b => some (.bool b, [])
    | .int k n => some (.int k n, [])
    | .string s => some (.string s, [])
    | .nilFunc => some (.nilFunc, [])
    | .iface n x => some (.iface n x, [])
    | .float k b => some (.float k b, [])
    | _ => none
def inert : Value → Bool
  | .bool _ | .int _ _ | .string _ | .nilFunc | .pointer none | .slice none 0 0 | .iface _ _ => true
  | .float _ _ => true
  | _ => false
def sealM (m : Mem) : List Nat → Mem
  | [] => m
  | n :: ns => sealM (match m[n]? with
    | some b => m.set n { b with own := false }
    | none => m) ns
def callWith (rn : Func → List Item → Tm → Mem → Option (Value × Mem)) (f : FuncId) (args : List Value) (m : Mem) : Option (Value × Mem) :=
  match C.P.funcs[f]? with
  | none => none
  | some g => match g.body with
    | none => none
    | some c => if args.length ≤ g.ntmps ∧ (g.name == "runtime.NumGoroutine") = false then
        if C.still f = true then
          if C.G ≤ m.length ∧ (m.take C.G).all (fun b => !b.own && b.cells.all inert) = true then
            match mapF (frz 64 m) args with
            | some (as, ns) => match rn g [.code c] (argsT 0 as) (m.take C.G) with
              | some (v, m2) => match frz 64 m2 v with
                | some (v', _) => some (v', sealM m ns)
                | none => none
              | none => none
            | none => none
          else none
        else rn g [.code c] (argsT 0 args) m
      else none
noncomputable def run : Nat → Func → List Item → Tm → Mem → Option (Value × Mem)
  | 0, _, _, _, _ => none
  | k + 1, fn, todo, T, m =>
    match todo with
    | [] => (resultA C fn m T).map fun v => (v, m)
    | .inBlock _ :: rest => run k fn rest T m
    | .inLoop c :: rest => run k fn (.code c :: .inLoop c :: rest) T m
    | .code c :: rest =>
      match c with
      | .skip => run k fn rest T m
      | .ret => (resultA C fn m T).map fun v => (v, m)
      | .seq a b => run k fn (.code a :: .code b :: rest) T m
      | .block id c => run k fn (.code c :: .inBlock id :: rest) T m
      | .loop c => run k fn (.code c :: .inLoop c :: rest) T m
      | .exit id => match exitTo id rest with
        | some rest' => run k fn rest' T m
        | none => none
      | .cond c a b => match ev C T c with
        | some (.bool true) => run k fn (.code a :: rest) T m
        | some (.bool false) => run k fn (.code b :: rest) T m
        | _ => none
      | .region _ ops draw =>
        match aRegion C (callWith C (run k)) fn.ntmps ops.toList draw T m with
        | some (T', m') => run k fn rest T' m'
        | none => none
      | _ => none
    | _ => none
end
end Go.Ab
namespace Go.Ab
structure Loc where
  g : Nat
  sh : Nat
  top : Nat
  es : Nat
structure Emb where
  loc : Nat → Option Loc
  fz : Nat → Option (Array Value)
instance : CoeFun Emb (fun _ => Nat → Option Loc) := ⟨Emb.loc⟩
def Emb.upd (ι : Emb) (n : Nat) (l : Loc) : Emb := { ι with loc := fun k => if k = n then some l else ι k }
def Emb.bare (ι : Emb) : Emb := { ι with loc := fun _ => none }
theorem Emb.upd_fz (ι : Emb) (n : Nat) (l : Loc) : (ι.upd n l).fz = ι.fz := rfl
theorem Emb.upd_same (ι : Emb) (n : Nat) (l : Loc) : ι.upd n l n = some l := by simp [Emb.upd]
theorem Emb.upd_ne (ι : Emb) {n k : Nat} (l : Loc) (h : k ≠ n) : ι.upd n l k = ι k := by simp [Emb.upd, h]
def plainA (_ : Option Addr) : Prop := True
inductive VR : Emb → Value → Value → Prop where
  | bool {ι : Emb} (b : Bool) : VR ι (.bool b) (.bool b)
  | int {ι : Emb} (k : IntKind) (n : Int) : VR ι (.int k n) (.int k n)
  | string {ι : Emb} (s : ByteArray) : VR ι (.string s) (.string s)
  | nilFunc {ι : Emb} : VR ι .nilFunc .nilFunc
  | ptrNil {ι : Emb} : VR ι (.pointer none) (.pointer none)
  | ptr {ι : Emb} (n o : Nat) (l : Loc) : ι n = some l → VR ι (.pointer (some ⟨n, o, none⟩)) (.pointer (some ⟨l.g, l.sh + o, none⟩))
  | slNil {ι : Emb} (a : Option Addr) : plainA a → VR ι (.slice none 0 0) (.slice a 0 0)
  | sl {ι : Emb} (n o len acap : Nat) (l : Loc) (off ccap : Nat) : ι n = some l → len ≤ acap → acap ≤ ccap → off + ccap * l.es ≤ l.top →
      (acap = 0 ∨ off = l.sh + o) → VR ι (.slice (some ⟨n, o, none⟩) len acap) (.slice (some ⟨l.g, off, none⟩) len ccap)
  | ro {ι : Emb} (len : Nat) (cs : Array Value) (g off ccap : Nat) (c : Array Value) : ι.fz g = some c → (cs.size = 0 ∨ off + cs.size ≤ c.size) → len ≤ ccap →
      (∀ (i : Nat) x y, cs[i]? = some x → c[off + i]? = some y → VR ι.bare x y) → cs.toList.all flat = true → VR ι (.iface len (.agg cs)) (.slice (some ⟨g, off, none⟩) len ccap)
  | ro0 {ι : Emb} (a : Option Addr) (ccap : Nat) : plainA a → VR ι (.iface 0 (.agg #[])) (.slice a 0 ccap)
  | sNil {ι : Emb} (ccap : Nat) : VR ι (.float .f64 0) (.slice none 0 ccap)
  | sEmp {ι : Emb} (a : Addr) (ccap : Nat) : VR ι (.float .f64 1) (.slice (some a) 0 ccap)
  | rop {ι : Emb} (cs : Array Value) (g off : Nat) (c : Array Value) : ι.fz g = some c → (cs.size = 0 ∨ off + cs.size ≤ c.size) →
      (∀ (i : Nat) x y, cs[i]? = some x → c[off + i]? = some y → VR ι.bare x y) → cs.toList.all flat = true → VR ι (.iface 0 (.tuple cs)) (.pointer (some ⟨g, off, none⟩))
  | func {ι : Emb} (fn : Fn) (a a' b b' : Array Value) : a.size = a'.size → (∀ (i : Nat) x y, a[i]? = some x → a'[i]? = some y → VR ι x y) →
      b.size = b'.size → (∀ (i : Nat) x y, b[i]? = some x → b'[i]? = some y → VR ι x y) → VR ι (.func fn a b) (.func fn a' b')
  | agg {ι : Emb} (a a' : Array Value) : a.size = a'.size → (∀ (i : Nat) x y, a[i]? = some x → a'[i]? = some y → VR ι x y) → VR ι (.agg a) (.agg a')
  | tuple {ι : Emb} (a a' : Array Value) : a.size = a'.size → (∀ (i : Nat) x y, a[i]? = some x → a'[i]? = some y → VR ι x y) → VR ι (.tuple a) (.tuple a')
theorem plainA.none : plainA none := trivial
theorem plainA.some (g o : Nat) : plainA (some ⟨g, o, Option.none⟩) := trivial
theorem plainA.any (a : Option Addr) : plainA a := trivial
theorem plainA.add {a : Option Addr} (_ : plainA a) (n : Nat) : plainA (a.map (·.add n)) := trivial
theorem ro_part {ι : Emb} {cs c : Array Value} {off : Nat} (hs : cs.size = 0 ∨ off + cs.size ≤ c.size) (h : ∀ (i : Nat) x y, cs[i]? = some x → c[off + i]? = some y → VR ι.bare x y) (o : Nat) {L : List Value}
    (hL : ∀ (i : Nat) x, L[i]? = some x → cs[o + i]? = some x) (hf : cs.toList.all flat = true) : (L.toArray.size = 0 ∨ off + o + L.toArray.size ≤ c.size) ∧ (∀ (i : Nat) x y, L.toArray[i]? = some x → c[off + o + i]? = some y → VR ι.bare x y) ∧ L.toArray.toList.all flat = true := by
  refine ⟨?_, ?_, ?_⟩
  · rcases Nat.eq_zero_or_pos L.length with h0 | h0
    · left; simpa using h0
    · right
      have := hL (L.length - 1) _ (List.getElem?_eq_getElem (by omega))
      have := (Array.getElem?_eq_some_iff.1 this).1
      simp
      omega
  · intro i x y hx hy
    exact h (o + i) x y (hL i x (by simpa using hx)) (by rw [← Nat.add_assoc]; exact hy)
  · rw [List.all_eq_true] at hf ⊢
    intro x hx
    simp only [List.toList_toArray] at hx
    obtain ⟨i, hi, rfl⟩ := List.getElem_of_mem hx
    have := hL i _ (List.getElem?_eq_getElem hi)
    rw [← Array.getElem?_toList] at this
    exact hf _ (List.mem_of_getElem? this)
theorem drop_get {cs : Array Value} (o : Nat) : ∀ (i : Nat) x, (cs.toList.drop o)[i]? = some x → cs[o + i]? = some x := by
  intro i x h
  rw [List.getElem?_drop] at h
  simpa using h
theorem take_drop_get {cs : Array Value} (o n : Nat) : ∀ (i : Nat) x, ((cs.toList.drop o).take n)[i]? = some x → cs[o + i]? = some x := by
  intro i x h
  rw [List.getElem?_take] at h
  split at h
  · exact drop_get o i x h
  · cases h
structure Emb.le (ι ι' : Emb) : Prop where
  loc : ∀ n l, ι n = some l → ι' n = some l
  fz : ∀ g c, ι.fz g = some c → ι'.fz g = some c
theorem Emb.le.refl (ι : Emb) : ι.le ι := ⟨fun _ _ h => h, fun _ _ h => h⟩
theorem Emb.le.trans {ι ι1 ι2 : Emb} (h : ι.le ι1) (g : ι1.le ι2) : ι.le ι2 := ⟨fun n l e => g.loc n l (h.loc n l e), fun n c e => g.fz n c (h.fz n c e)⟩
theorem Emb.le.bare {ι ι' : Emb} (h : ι.le ι') : ι.bare.le ι'.bare := ⟨fun _ _ e => e, h.fz⟩
theorem Emb.bare_le (ι : Emb) : ι.bare.le ι := ⟨fun _ _ e => by simp [Emb.bare] at e, fun _ _ e => e⟩
theorem Emb.upd_le {ι : Emb} {n : Nat} (l : Loc) (h : ι n = none) : ι.le (ι.upd n l) := by
  refine ⟨fun k l' e => ?_, fun _ _ e => e⟩
  rw [Emb.upd_ne]
  · exact e
  · rintro rfl; rw [h] at e; cases e
theorem VR.mono {ι ι' : Emb} (h : ι.le ι') {v v' : Value} (r : VR ι v v') : VR ι' v v' := by
  induction r generalizing ι' with
  | bool b => exact .bool b
  | int k n => exact .int k n
  | string s => exact .string s
  | nilFunc => exact .nilFunc
  | ptrNil => exact .ptrNil
  | ptr n o l hl => exact .ptr n o l (h.loc _ _ hl)
  | slNil a ha => exact .slNil a ha
  | sl n o len acap l off ccap hl h1 h2 h3 h4 => exact .sl n o len acap l off ccap (h.loc _ _ hl) h1 h2 h3 h4
  | ro len cs g off ccap c h1 h2 h3 _ h5 ih => exact .ro len cs g off ccap c (h.fz _ _ h1) h2 h3 (fun i x y hx hy => ih i x y hx hy h.bare) h5
  | ro0 a ccap ha => exact .ro0 a ccap ha
  | sNil ccap => exact .sNil ccap
  | sEmp a ccap => exact .sEmp a ccap
  | rop cs g off c h1 h2 _ h5 ih => exact .rop cs g off c (h.fz _ _ h1) h2 (fun i x y hx hy => ih i x y hx hy h.bare) h5
  | func fn a a' b b' ha _ hb _ ia ib => exact .func fn a a' b b' ha (fun i x y hx hy => ia i x y hx hy h) hb (fun i x y hx hy => ib i x y hx hy h)
  | agg a a' ha _ ia => exact .agg a a' ha (fun i x y hx hy => ia i x y hx hy h)
  | tuple a a' ha _ ia => exact .tuple a a' ha (fun i x y hx hy => ia i x y hx hy h)
theorem VR.const {ι : Emb} {v : Value} (h : constOk v = true) : VR ι v v := by
  unfold constOk at h
  split at h <;> first | exact .slNil none trivial | constructor | simp at h
theorem VR.flat {ι : Emb} {v v' : Value} (r : VR ι v v') : flat v' = flat v := by
  cases r <;> rfl
def VRL (ι : Emb) (xs ys : List Value) : Prop := xs.length = ys.length ∧ ∀ (i : Nat) x y, xs[i]? = some x → ys[i]? = some y → VR ι x y
theorem VRL.nil {ι : Emb} : VRL ι [] [] := ⟨rfl, fun _ _ _ h => by simp at h⟩
theorem VRL.cons {ι : Emb} {x y : Value} {xs ys : List Value} (h : VR ι x y) (t : VRL ι xs ys) : VRL ι (x :: xs) (y :: ys) := by
  refine ⟨by simp [t.1], fun i a b ha hb => ?_⟩
  cases i with
  | zero => simp at ha hb; subst ha; subst hb; exact h
  | succ i => simp at ha hb; exact t.2 i a b ha hb
theorem VRL.head {ι : Emb} {x y : Value} {xs ys : List Value} (h : VRL ι (x :: xs) (y :: ys)) : VR ι x y := h.2 0 x y (by simp) (by simp)
theorem VRL.tail {ι : Emb} {x y : Value} {xs ys : List Value} (h : VRL ι (x :: xs) (y :: ys)) : VRL ι xs ys :=
  ⟨by have := h.1; simpa using this, fun i a b ha hb => h.2 (i + 1) a b (by simpa using ha) (by simpa using hb)⟩
theorem VRL.cases_cons {ι : Emb} {x : Value} {xs zs : List Value} (h : VRL ι (x :: xs) zs) : ∃ y ys, zs = y :: ys ∧ VR ι x y ∧ VRL ι xs ys := by
  cases zs with
  | nil => have := h.1; simp at this
  | cons y ys => exact ⟨y, ys, rfl, h.head, h.tail⟩
theorem VRL.cases_nil {ι : Emb} {zs : List Value} (h : VRL ι [] zs) : zs = [] := by
  have := h.1
  cases zs with
  | nil => rfl
  | cons _ _ => simp at this
theorem VRL.mono {ι ι' : Emb} (h : ι.le ι') {xs ys : List Value} (r : VRL ι xs ys) : VRL ι' xs ys := ⟨r.1, fun i x y hx hy => (r.2 i x y hx hy).mono h⟩
theorem VRL.append {ι : Emb} {xs ys xs' ys' : List Value} (h : VRL ι xs ys) (h' : VRL ι xs' ys') : VRL ι (xs ++ xs') (ys ++ ys') := by
  induction xs generalizing ys with
  | nil => rw [h.cases_nil]; simpa using h'
  | cons x xs ih =>
    obtain ⟨y, ys, rfl, hx, ht⟩ := h.cases_cons
    exact VRL.cons hx (ih ht)
theorem VRL.take {ι : Emb} {xs ys : List Value} (h : VRL ι xs ys) (k : Nat) : VRL ι (xs.take k) (ys.take k) := by
  refine ⟨by simp [h.1], fun i x y hx hy => ?_⟩
  rw [List.getElem?_take] at hx hy
  split at hx
  · rename_i hi
    rw [if_pos hi] at hy
    exact h.2 i x y hx hy
  · simp at hx
theorem VRL.drop {ι : Emb} {xs ys : List Value} (h : VRL ι xs ys) (k : Nat) : VRL ι (xs.drop k) (ys.drop k) := by
  refine ⟨by simp [h.1], fun i x y hx hy => ?_⟩
  rw [List.getElem?_drop] at hx hy
  exact h.2 _ x y hx hy
theorem VRL.consts {ι : Emb} {xs : List Value} (h : ∀ x ∈ xs, constOk x = true) : VRL ι xs xs :=
  ⟨rfl, fun i x y hx hy => by rw [hx] at hy; cases hy; exact .const (h x (List.mem_of_getElem? hx))⟩
theorem VRL.get {ι : Emb} {xs ys : List Value} (h : VRL ι xs ys) {i : Nat} {x : Value} (hx : xs[i]? = some x) : ∃ y, ys[i]? = some y ∧ VR ι x y := by
  have hi : i < xs.length := (List.getElem?_eq_some_iff.1 hx).1
  have hy : ys[i]? = some (ys[i]'(by rw [← h.1]; exact hi)) := List.getElem?_eq_getElem _
  exact ⟨_, hy, h.2 i x _ hx hy⟩
theorem VRL.all_flat {ι : Emb} {xs ys : List Value} (h : VRL ι xs ys) (hf : xs.all flat = true) : ys.all flat = true := by
  rw [List.all_eq_true] at hf ⊢
  intro y hy
  obtain ⟨i, hi, rfl⟩ := List.getElem_of_mem hy
  have hx : xs[i]? = some (xs[i]'(by rw [h.1]; exact hi)) := List.getElem?_eq_getElem _
  rw [(h.2 i _ _ hx (List.getElem?_eq_getElem hi)).flat]
  exact hf _ (List.mem_of_getElem? hx)
theorem VR.arr {ι : Emb} {a a' : Array Value} (hs : a.size = a'.size) (h : ∀ (i : Nat) x y, a[i]? = some x → a'[i]? = some y → VR ι x y) : VRL ι a.toList a'.toList :=
  ⟨by simpa using hs, fun i x y hx hy => h i x y (by simpa using hx) (by simpa using hy)⟩
theorem VRL.arr {ι : Emb} {xs ys : List Value} (h : VRL ι xs ys) : xs.toArray.size = ys.toArray.size ∧ ∀ (i : Nat) x y, xs.toArray[i]? = some x → ys.toArray[i]? = some y → VR ι x y :=
  ⟨by simpa using h.1, fun i x y hx hy => h.2 i x y (by simpa using hx) (by simpa using hy)⟩
theorem VRL.agg {ι : Emb} {xs ys : List Value} (h : VRL ι xs ys) : VR ι (.agg xs.toArray) (.agg ys.toArray) := .agg _ _ h.arr.1 h.arr.2
theorem VRL.tuple {ι : Emb} {xs ys : List Value} (h : VRL ι xs ys) : VR ι (.tuple xs.toArray) (.tuple ys.toArray) := .tuple _ _ h.arr.1 h.arr.2
theorem VR.cells {ι : Emb} {v v' : Value} (r : VR ι v v') : VRL ι v.cells.toList v'.cells.toList := by
  cases r with
  | agg a a' h1 h2 => exact VR.arr h1 h2
  | bool b => exact VRL.cons (.bool b) .nil
  | int k n => exact VRL.cons (.int k n) .nil
  | string s => exact VRL.cons (.string s) .nil
  | nilFunc => exact VRL.cons .nilFunc .nil
  | ptrNil => exact VRL.cons .ptrNil .nil
  | ptr n o l h => exact VRL.cons (.ptr n o l h) .nil
  | slNil a h => exact VRL.cons (.slNil a h) .nil
  | sl n o len acap l off ccap h1 h2 h3 h4 h5 => exact VRL.cons (.sl n o len acap l off ccap h1 h2 h3 h4 h5) .nil
  | ro len cs g off ccap c h1 h2 h3 h4 h5 => exact VRL.cons (.ro len cs g off ccap c h1 h2 h3 h4 h5) .nil
  | ro0 a ccap h => exact VRL.cons (.ro0 a ccap h) .nil
  | sNil ccap => exact VRL.cons (.sNil ccap) .nil
  | sEmp a ccap => exact VRL.cons (.sEmp a ccap) .nil
  | rop cs g off c h1 h2 h3 h4 => exact VRL.cons (.rop cs g off c h1 h2 h3 h4) .nil
  | func fn a a' b b' h1 h2 h3 h4 => exact VRL.cons (.func fn a a' b b' h1 h2 h3 h4) .nil
  | tuple a a' h1 h2 => exact VRL.cons (.tuple a a' h1 h2) .nil
structure Match (ι : Emb) (b : Blk) (l : Loc) (w : World) : Prop where
  ex : ∃ c e fz, w.heap[l.g]? = some (.cells c e fz) ∧ l.top ≤ c.size ∧ l.sh + b.cells.length ≤ l.top ∧
    (∀ (i : Nat) v, b.cells[i]? = some v → ∃ v', c[l.sh + i]? = some v' ∧ VR ι v v') ∧
    (b.own = true → ∀ i, i < c.size → ¬ (fz.1 ≤ i ∧ i < fz.2))
  flat : b.cells.all flat = true
theorem Match.mono {ι ι' : Emb} {b : Blk} {l : Loc} {w : World} (h : ι.le ι') (M : Match ι b l w) : Match ι' b l w := by
  obtain ⟨c, e, fz, h1, h2, h3, h4, h5⟩ := M.ex
  refine ⟨⟨c, e, fz, h1, h2, h3, fun i v hv => ?_, h5⟩, M.flat⟩
  obtain ⟨v', hc, r⟩ := h4 i v hv
  exact ⟨v', hc, r.mono h⟩
theorem Match.heap {ι : Emb} {b : Blk} {l : Loc} {w w' : World} (M : Match ι b l w) (h : w'.heap[l.g]? = w.heap[l.g]?) : Match ι b l w' := by
  obtain ⟨c, e, fz, h1, rest⟩ := M.ex
  exact ⟨⟨c, e, fz, h.trans h1, rest⟩, M.flat⟩
theorem Match.lt {ι : Emb} {b : Blk} {l : Loc} {w : World} (M : Match ι b l w) : l.g < w.heap.size := by
  obtain ⟨c, e, fz, h1, _⟩ := M.ex
  exact (Array.getElem?_eq_some_iff.1 h1).1
structure Rep (B : Nat) (ι : Emb) (m : Mem) (w : World) : Prop where
  cells : ∀ n l b, ι n = some l → m[n]? = some b → b.live = true → Match ι b l w
  apart : ∀ n n' l l' b b', n ≠ n' → ι n = some l → ι n' = some l' → m[n]? = some b → m[n']? = some b' → b.live = true → b'.live = true → b.own = true → l.g ≠ l'.g
  base : ∀ n l b, ι n = some l → m[n]? = some b → b.live = true → b.own = true → B ≤ l.g
  es : ∀ n l b, ι n = some l → m[n]? = some b → b.es = l.es
  /-- what is frozen stands as it was -/
  frozen : ∀ g c, ι.fz g = some c → ∃ e z, w.heap[g]? = some (.cells c e z)
  /-- no block that may be written lies in what is frozen -/
  cold : ∀ n l b, ι n = some l → m[n]? = some b → b.live = true → b.own = true → ι.fz l.g = none
  /-- a block that may not be written is frozen -/
  kept : ∀ n l b, ι n = some l → m[n]? = some b → b.live = true → b.own = false → ∃ c, ι.fz l.g = some c
structure After (B : Nat) (ι : Emb) (m : Mem) (w : World) (ι' : Emb) (m' : Mem) (w' : World) : Prop where
  len : m.length ≤ m'.length
  keep : ∀ n, n < m.length ∨ m'.length ≤ n → ι' n = ι n
  rep : Rep B ι' m' w'
  frame : ∀ g, g < w.heap.size → (∀ n l b, ι n = some l → m[n]? = some b → b.live = true → b.own = true → l.g ≠ g) → w'.heap[g]? = w.heap[g]?
  origin : ∀ n l b, m.length ≤ n → ι' n = some l → m'[n]? = some b → b.live = true →
    w.heap.size ≤ l.g ∨ ∃ k l0 b0, ι k = some l0 ∧ m[k]? = some b0 ∧ b0.live = true ∧ b0.own = true ∧ l0.g = l.g
  alive : ∀ (k : Nat) b', k < m.length → m'[k]? = some b' → ∃ b, m[k]? = some b ∧ b'.es = b.es ∧ (b'.own = true → b.own = true) ∧ (b'.live = true → b.live = true)
  fz : ∀ g c, ι.fz g = some c → ι'.fz g = some c
  ice : ∀ g, ι.fz g = none → ι'.fz g = none ∨ w.heap.size ≤ g ∨ ∃ n l b, ι n = some l ∧ m[n]? = some b ∧ b.live = true ∧ b.own = true ∧ l.g = g
  unreal : ∀ (k : Nat), k < m.length → ι k = none → m'[k]? = m[k]?
  os : w'.os = w.os
  tape : w'.tape = w.tape
  output : w'.output = w.output
  size : w.heap.size ≤ w'.heap.size
def Free (ι : Emb) (a b : Nat) : Prop := ∀ n, a ≤ n → n < b → ι n = none
theorem After.le {B : Nat} {ι ι' : Emb} {m m' : Mem} {w w' : World} (A : After B ι m w ι' m' w') (hf : Free ι m.length m'.length) : ι.le ι' := by
  refine ⟨fun n l h => ?_, A.fz⟩
  rw [A.keep n ?_]
  · exact h
  · rcases Nat.lt_or_ge n m.length with h1 | h1
    · exact .inl h1
    · rcases Nat.lt_or_ge n m'.length with h2 | h2
      · rw [hf n h1 h2] at h; cases h
      · exact .inr h2
theorem After.same {B : Nat} {ι : Emb} {m : Mem} {w w' : World} (R : Rep B ι m w) (hh : w'.heap = w.heap) (ho : w'.os = w.os) (ht : w'.tape = w.tape) (hu : w'.output = w.output) : After B ι m w ι m w' where
  len := Nat.le_refl _
  keep _ _ := rfl
  rep := ⟨fun n l b h1 h2 h3 => (R.cells n l b h1 h2 h3).heap (by rw [hh]), R.apart, R.base, R.es, fun g c h => by rw [hh]; exact R.frozen g c h, R.cold, R.kept⟩
  frame g _ _ := by rw [hh]
  origin n l b h1 _ h3 _ := by
    have := (List.getElem?_eq_some_iff.1 h3).1
    omega
  alive k b' _ h := ⟨b', h, rfl, id, id⟩
  fz _ _ h := h
  ice _ h := .inl h
  unreal _ _ _ := rfl
  os := ho
  tape := ht
  output := hu
  size := by rw [hh]; exact Nat.le_refl _
theorem After.refl {B : Nat} {ι : Emb} {m : Mem} {w : World} (R : Rep B ι m w) : After B ι m w ι m w := After.same R rfl rfl rfl rfl
theorem After.trans {B : Nat} {ι ι1 ι2 : Emb} {m m1 m2 : Mem} {w w1 w2 : World} (h1 : After B ι m w ι1 m1 w1) (h2 : After B ι1 m1 w1 ι2 m2 w2) : After B ι m w ι2 m2 w2 where
  len := Nat.le_trans h1.len h2.len
  keep n h := by
    have l1 := h1.len
    have l2 := h2.len
    rcases h with h | h
    · rw [h2.keep n (.inl (by omega)), h1.keep n (.inl h)]
    · rw [h2.keep n (.inr h), h1.keep n (.inr (by omega))]
  rep := h2.rep
  frame g hg hn := by
    rw [h2.frame g (Nat.lt_of_lt_of_le hg h1.size) ?_, h1.frame g hg hn]
    intro n l b hl hb hv ho
    rcases Nat.lt_or_ge n m.length with hlt | hge
    · obtain ⟨b0, e0, _, e1, e2⟩ := h1.alive n b hlt hb
      rw [h1.keep n (.inl hlt)] at hl
      exact hn n l b0 hl e0 (e2 hv) (e1 ho)
    · rcases h1.origin n l b hge hl hb hv with h | ⟨k, l0, b0, a1, a2, a3, a4, a5⟩
      · omega
      · rw [← a5]; exact hn k l0 b0 a1 a2 a3 a4
  origin n l b hn hl hb hv := by
    have orig1 : ∀ n l b, m.length ≤ n → ι1 n = some l → m1[n]? = some b → b.live = true →
        w.heap.size ≤ l.g ∨ ∃ k l0 b0, ι k = some l0 ∧ m[k]? = some b0 ∧ b0.live = true ∧ b0.own = true ∧ l0.g = l.g := h1.origin
    rcases Nat.lt_or_ge n m1.length with hlt | hge
    · obtain ⟨b0, e0, _, e1, e2⟩ := h2.alive n b hlt hb
      rw [h2.keep n (.inl hlt)] at hl
      exact orig1 n l b0 hn hl e0 (e2 hv)
    · rcases h2.origin n l b hge hl hb hv with h | ⟨k, l0, b0, a1, a2, a3, a4, a5⟩
      · exact .inl (Nat.le_trans h1.size h)
      · rcases Nat.lt_or_ge k m.length with hk | hk
        · obtain ⟨c0, e0, _, e1, e2⟩ := h1.alive k b0 hk a2
          rw [h1.keep k (.inl hk)] at a1
          exact .inr ⟨k, l0, c0, a1, e0, e2 a3, e1 a4, a5⟩
        · rcases orig1 k l0 b0 hk a1 a2 a3 with h | ⟨k', l', b', c1, c2, c3, c4, c5⟩
          · exact .inl (by omega)
          · exact .inr ⟨k', l', b', c1, c2, c3, c4, c5.trans a5⟩
  alive k b' hk hb := by
    obtain ⟨b1, e0, e1, e2, e3⟩ := h2.alive k b' (Nat.lt_of_lt_of_le hk h1.len) hb
    obtain ⟨b, d0, d1, d2, d3⟩ := h1.alive k b1 hk e0
    exact ⟨b, d0, e1.trans d1, fun h => d2 (e2 h), fun h => d3 (e3 h)⟩
  fz g c h := h2.fz g c (h1.fz g c h)
  ice g hg := by
    rcases h1.ice g hg with h | h
    · rcases h2.ice g h with h' | h' | ⟨n, l, b, a1, a2, a3, a4, a5⟩
      · exact .inl h'
      · exact .inr (.inl (Nat.le_trans h1.size h'))
      · rcases Nat.lt_or_ge n m.length with hn | hn
        · obtain ⟨c0, e0, _, e1, e2⟩ := h1.alive n b hn a2
          rw [h1.keep n (.inl hn)] at a1
          exact .inr (.inr ⟨n, l, c0, a1, e0, e2 a3, e1 a4, a5⟩)
        · rcases h1.origin n l b hn a1 a2 a3 with h' | ⟨k', l', b', c1, c2, c3, c4, c5⟩
          · exact .inr (.inl (by omega))
          · exact .inr (.inr ⟨k', l', b', c1, c2, c3, c4, c5.trans a5⟩)
    · exact .inr h
  unreal k hk hn := by
    rw [h2.unreal k (Nat.lt_of_lt_of_le hk h1.len) (by rw [h1.keep k (.inl hk)]; exact hn), h1.unreal k hk hn]
  os := h2.os.trans h1.os
  tape := h2.tape.trans h1.tape
  output := h2.output.trans h1.output
  size := Nat.le_trans h1.size h2.size
theorem getElem?_snoc {m : Mem} {b x : Blk} {n : Nat} (h : (m ++ [b])[n]? = some x) : (n < m.length ∧ m[n]? = some x) ∨ (n = m.length ∧ x = b) := by
  rw [List.getElem?_append] at h
  split at h
  · exact .inl ⟨‹_›, h⟩
  · have hb := (List.getElem?_eq_some_iff.1 h).1
    simp at hb
    have : n = m.length := by omega
    subst this
    simp at h
    exact .inr ⟨rfl, h.symm⟩
theorem After.alloc {B : Nat} {ι : Emb} {m : Mem} {w : World} (R : Rep B ι m w) (hB : B ≤ w.heap.size) {b : Blk} {c : Array Value} {e : TypeId}
    (hown : b.own = true) (hfree : ι m.length = none) (hfl : b.cells.all flat = true) (hlen : b.cells.length ≤ c.size)
    (hc : ∀ (i : Nat) v, b.cells[i]? = some v → ∃ v', c[i]? = some v' ∧ VR ι v v')
    {fz : Nat × Nat} (hfz : ∀ i, i < c.size → ¬ (fz.1 ≤ i ∧ i < fz.2)) {w' : World} (hh : w'.heap = w.heap.push (.cells c e fz)) (ho : w'.os = w.os) (ht : w'.tape = w.tape) (hu : w'.output = w.output) :
    After B ι m w (ι.upd m.length ⟨w.heap.size, 0, c.size, b.es⟩) (m ++ [b]) w' := by
  have hle : ι.le (ι.upd m.length ⟨w.heap.size, 0, c.size, b.es⟩) := Emb.upd_le _ hfree
  have hno : ι.fz w.heap.size = none := by
    cases h : ι.fz w.heap.size with
    | none => rfl
    | some c =>
      obtain ⟨e, z, hz⟩ := R.frozen _ _ h
      have := (Array.getElem?_eq_some_iff.1 hz).1
      omega
  have hold : ∀ g, g < w.heap.size → w'.heap[g]? = w.heap[g]? := fun g hg => by
    rw [hh, Array.getElem?_push, if_neg (by omega)]
  refine { len := by simp, keep := ?_, rep := ⟨?_, ?_, ?_, ?_, ?_, ?_, ?_⟩, frame := fun g hg _ => hold g hg, origin := ?_, alive := ?_, fz := fun _ _ h => h, ice := fun _ h => .inl h, unreal := ?_, os := ho, tape := ht, output := hu, size := by rw [hh]; simp }
  · intro n h
    apply Emb.upd_ne
    simp at h
    omega
  · intro n l x hl hx hv
    rcases getElem?_snoc hx with ⟨hlt, hx⟩ | ⟨rfl, rfl⟩
    · rw [Emb.upd_ne _ _ (by omega)] at hl
      have M := R.cells n l x hl hx hv
      exact (M.mono hle).heap (hold _ M.lt)
    · rw [Emb.upd_same] at hl
      cases hl
      refine ⟨⟨c, e, fz, by rw [hh]; simp, Nat.le_refl _, by simpa using hlen, ?_, fun _ => hfz⟩, hfl⟩
      intro i v hv
      obtain ⟨v', h1, h2⟩ := hc i v hv
      exact ⟨v', by simpa using h1, h2.mono hle⟩
  · intro n n' l l' x x' hne hl hl' hx hx' hv hv' hown
    rcases getElem?_snoc hx with ⟨hlt, hy⟩ | ⟨e1, e2⟩ <;> rcases getElem?_snoc hx' with ⟨hlt', hy'⟩ | ⟨e1', e2'⟩
    · rw [Emb.upd_ne _ _ (by omega)] at hl hl'
      exact R.apart n n' l l' x x' hne hl hl' hy hy' hv hv' hown
    · rw [Emb.upd_ne _ _ (by omega)] at hl
      rw [e1', Emb.upd_same] at hl'
      cases hl'
      have := (R.cells n l x hl hy hv).lt
      simp only; omega
    · rw [Emb.upd_ne _ _ (by omega)] at hl'
      rw [e1, Emb.upd_same] at hl
      cases hl
      have := (R.cells n' l' x' hl' hy' hv').lt
      simp only; omega
    · exact absurd (e1.trans e1'.symm) hne
  · intro n l x hl hx hv hown
    rcases getElem?_snoc hx with ⟨hlt, hx⟩ | ⟨rfl, rfl⟩
    · rw [Emb.upd_ne _ _ (by omega)] at hl
      exact R.base n l x hl hx hv hown
    · rw [Emb.upd_same] at hl
      cases hl
      exact hB
  · intro n l x hl hx
    rcases getElem?_snoc hx with ⟨hlt, hx⟩ | ⟨rfl, rfl⟩
    · rw [Emb.upd_ne _ _ (by omega)] at hl
      exact R.es n l x hl hx
    · rw [Emb.upd_same] at hl
      cases hl
      rfl
  · intro g c' h
    obtain ⟨e, z, hz⟩ := R.frozen g c' h
    exact ⟨e, z, by rw [hold g (Array.getElem?_eq_some_iff.1 hz).1]; exact hz⟩
  · intro n l x hl hx hv ho
    rcases getElem?_snoc hx with ⟨hlt, hx⟩ | ⟨rfl, rfl⟩
    · rw [Emb.upd_ne _ _ (by omega)] at hl
      exact R.cold n l x hl hx hv ho
    · rw [Emb.upd_same] at hl
      cases hl
      exact hno
  · intro n l x hl hx hv ho
    rcases getElem?_snoc hx with ⟨hlt, hx⟩ | ⟨rfl, rfl⟩
    · rw [Emb.upd_ne _ _ (by omega)] at hl
      exact R.kept n l x hl hx hv ho
    · rw [hown] at ho
      cases ho
  · intro n l x hn hl hx _
    rcases getElem?_snoc hx with ⟨hlt, hx⟩ | ⟨rfl, rfl⟩
    · omega
    · rw [Emb.upd_same] at hl
      cases hl
      exact .inl (Nat.le_refl _)
  · intro k b' hk hb
    rw [List.getElem?_append_left hk] at hb
    exact ⟨b', hb, rfl, id, id⟩
  · intro k hk _
    exact List.getElem?_append_left hk
theorem After.kill {B : Nat} {ι : Emb} {m : Mem} {w : World} (R : Rep B ι m w) {n : Nat} {b : Blk} {l : Loc} (hb : m[n]? = some b) (hl : ι n = some l) :
    After B ι m w ι (m.set n { b with live := false }) w := by
  have hn : n < m.length := (List.getElem?_eq_some_iff.1 hb).1
  have get : ∀ k x, (m.set n { b with live := false })[k]? = some x → (k = n ∧ x = { b with live := false }) ∨ (k ≠ n ∧ m[k]? = some x) := by
    intro k x h
    rw [List.getElem?_set] at h
    split at h
    · rename_i e
      subst e
      first | rw [if_pos hn] at h | skip
      exact .inl ⟨rfl, by simpa using h.symm⟩
    · exact .inr ⟨by rintro rfl; simp_all, h⟩
  refine { len := by simp, keep := fun _ _ => rfl, rep := ⟨?_, ?_, ?_, ?_, R.frozen, ?_, ?_⟩, frame := fun _ _ _ => rfl, origin := ?_, alive := ?_, fz := fun _ _ h => h, ice := fun _ h => .inl h, unreal := ?_, os := rfl, tape := rfl, output := rfl, size := Nat.le_refl _ }
  · intro k l x h1 h2 h3
    rcases get k x h2 with ⟨rfl, rfl⟩ | ⟨_, h⟩
    · simp at h3
    · exact R.cells k l x h1 h h3
  · intro k k' l l' x x' hne h1 h2 h3 h4 h5 h6 h7
    rcases get k x h3 with ⟨rfl, rfl⟩ | ⟨_, h⟩
    · simp at h5
    · rcases get k' x' h4 with ⟨rfl, rfl⟩ | ⟨_, h'⟩
      · simp at h6
      · exact R.apart k k' l l' x x' hne h1 h2 h h' h5 h6 h7
  · intro k l x h1 h2 h3 h4
    rcases get k x h2 with ⟨rfl, rfl⟩ | ⟨_, h⟩
    · simp at h3
    · exact R.base k l x h1 h h3 h4
  · intro k l x h1 h2
    rcases get k x h2 with ⟨rfl, rfl⟩ | ⟨_, h⟩
    · exact R.es _ l b h1 hb
    · exact R.es k l x h1 h
  · intro k l x h1 h2 h3 h4
    rcases get k x h2 with ⟨rfl, rfl⟩ | ⟨_, h⟩
    · simp at h3
    · exact R.cold k l x h1 h h3 h4
  · intro k l x h1 h2 h3 h4
    rcases get k x h2 with ⟨rfl, rfl⟩ | ⟨_, h⟩
    · simp at h3
    · exact R.kept k l x h1 h h3 h4
  · intro k l x h1 _ h3 _
    have := (List.getElem?_eq_some_iff.1 h3).1
    simp at this
    omega
  · intro k b' _ h
    rcases get k b' h with ⟨rfl, rfl⟩ | ⟨_, h⟩
    · exact ⟨b, hb, rfl, id, fun h => by simp at h⟩
    · exact ⟨b', h, rfl, id, id⟩
  · intro k hk h
    rw [List.getElem?_set, if_neg]
    rintro rfl
    rw [hl] at h
    cases h
theorem splice_length {l : List Value} {o : Nat} {vs : List Value} (h : o + vs.length ≤ l.length) : (splice l o vs).length = l.length := by
  simp [splice]; omega
theorem splice_get {l : List Value} {o : Nat} {vs : List Value} (h : o + vs.length ≤ l.length) (i : Nat) :
    (splice l o vs)[i]? = if o ≤ i ∧ i < o + vs.length then vs[i - o]? else l[i]? := by
  unfold splice
  have ht : (l.take o).length = o := by simp; omega
  by_cases h1 : i < o
  · rw [if_neg (by omega), List.append_assoc, List.getElem?_append_left (by omega), List.getElem?_take, if_pos h1]
  · by_cases h2 : i < o + vs.length
    · rw [if_pos (by omega), List.getElem?_append_left (by simp; omega), List.getElem?_append_right (by omega), ht]
    · rw [if_neg (by omega), List.getElem?_append_right (by simp; omega), List.getElem?_drop]
      congr 1
      simp
      omega
theorem splice_flat {l : List Value} {o : Nat} {vs : List Value} (h : l.all flat = true) (g : vs.all flat = true) : (splice l o vs).all flat = true := by
  rw [List.all_eq_true] at h g ⊢
  intro x hx
  unfold splice at hx
  simp only [List.mem_append] at hx
  rcases hx with (hx | hx) | hx
  · exact h x (List.mem_of_mem_take hx)
  · exact g x hx
  · exact h x (List.mem_of_mem_drop hx)
theorem After.write {B : Nat} {ι : Emb} {m : Mem} {w w' : World} (R : Rep B ι m w) {n : Nat} {b : Blk} {l : Loc} (hb : m[n]? = some b) (hl : ι n = some l)
    (hv : b.live = true) (hown : b.own = true) {o : Nat} {vs vs' : List Value} (ho : o + vs.length ≤ b.cells.length) (hvs : VRL ι vs vs') (hfl : vs.all flat = true)
    {c : Array Value} {e : TypeId} {fz : Nat × Nat} {c' : Array Value} (hc : w.heap[l.g]? = some (.cells c e fz))
    (here : w'.heap[l.g]? = some (.cells c' e fz)) (other : ∀ g, g ≠ l.g → w'.heap[g]? = w.heap[g]?) (hsz : w'.heap.size = w.heap.size) (hs : c'.size = c.size)
    (hc' : ∀ (i : Nat), c'[i]? = if l.sh + o ≤ i ∧ i < l.sh + o + vs'.length then vs'[i - (l.sh + o)]? else c[i]?)
    (hos : w'.os = w.os) (ht : w'.tape = w.tape) (hu : w'.output = w.output) :
    After B ι m w ι (m.set n { b with cells := splice b.cells o vs }) w' := by
  have hn : n < m.length := (List.getElem?_eq_some_iff.1 hb).1
  have get : ∀ k x, (m.set n { b with cells := splice b.cells o vs })[k]? = some x → (k = n ∧ x = { b with cells := splice b.cells o vs }) ∨ (k ≠ n ∧ m[k]? = some x) := by
    intro k x h
    rw [List.getElem?_set] at h
    split at h
    · rename_i e
      subst e
      first | rw [if_pos hn] at h | skip
      exact .inl ⟨rfl, by simpa using h.symm⟩
    · exact .inr ⟨by rintro rfl; simp_all, h⟩
  have M := R.cells n l b hl hb hv
  obtain ⟨c0, e0, fz0, m1, m2, m3, m4, m5⟩ := M.ex
  rw [hc] at m1
  cases m1
  refine { len := by simp, keep := fun _ _ => rfl, rep := ⟨?_, ?_, ?_, ?_, ?_, ?_, ?_⟩, frame := ?_, origin := ?_, alive := ?_, fz := fun _ _ h => h, ice := fun _ h => .inl h, unreal := ?_, os := hos, tape := ht, output := hu, size := by rw [hsz]; exact Nat.le_refl _ }
  · intro k l1 x h1 h2 h3
    rcases get k x h2 with ⟨rfl, rfl⟩ | ⟨hne, h⟩
    · rw [hl] at h1
      cases h1
      refine ⟨⟨c', e, fz, here, by omega, by simp only; rw [splice_length ho]; exact m3, ?_, ?_⟩, splice_flat M.flat hfl⟩
      · intro i v hi
        simp only at hi
        rw [splice_get ho] at hi
        rw [hc']
        split at hi
        · rename_i hr
          rw [if_pos (by rw [← hvs.1]; omega)]
          obtain ⟨y, hy, r⟩ := hvs.get hi
          exact ⟨y, by rw [show l.sh + i - (l.sh + o) = i - o by omega]; exact hy, r⟩
        · rename_i hr
          rw [if_neg (by rw [← hvs.1]; omega)]
          exact m4 i v hi
      · intro _ i hi
        exact m5 hown i (by omega)
    · have M' := R.cells k l1 x h1 h h3
      exact M'.heap (other _ (fun e => R.apart n k l l1 b x (fun e => hne e.symm) hl h1 hb h hv h3 hown e.symm))
  · intro k k' l1 l2 x x' hne h1 h2 h3 h4 h5 h6 h7
    rcases get k x h3 with ⟨rfl, rfl⟩ | ⟨_, h⟩ <;> rcases get k' x' h4 with ⟨rfl, rfl⟩ | ⟨_, h'⟩
    · exact absurd rfl hne
    · exact R.apart _ k' l1 l2 b x' hne h1 h2 hb h' hv h6 hown
    · exact R.apart k _ l1 l2 x b hne h1 h2 h hb h5 hv h7
    · exact R.apart k k' l1 l2 x x' hne h1 h2 h h' h5 h6 h7
  · intro k l1 x h1 h2 h3 h4
    rcases get k x h2 with ⟨rfl, rfl⟩ | ⟨_, h⟩
    · exact R.base _ l1 b h1 hb hv hown
    · exact R.base k l1 x h1 h h3 h4
  · intro k l1 x h1 h2
    rcases get k x h2 with ⟨rfl, rfl⟩ | ⟨_, h⟩
    · exact R.es _ l1 b h1 hb
    · exact R.es k l1 x h1 h
  · intro g c1 h
    obtain ⟨e1, z1, hz⟩ := R.frozen g c1 h
    refine ⟨e1, z1, ?_⟩
    rw [other g]
    · exact hz
    · rintro rfl
      rw [R.cold n l b hl hb hv hown] at h
      cases h
  · intro k l1 x h1 h2 h3 h4
    rcases get k x h2 with ⟨rfl, rfl⟩ | ⟨_, h⟩
    · exact R.cold _ l1 b h1 hb hv hown
    · exact R.cold k l1 x h1 h h3 h4
  · intro k l1 x h1 h2 h3 h4
    rcases get k x h2 with ⟨rfl, rfl⟩ | ⟨_, h⟩
    · simp only at h4; rw [hown] at h4; cases h4
    · exact R.kept k l1 x h1 h h3 h4
  · intro g _ hg
    exact other g (fun e => hg n l b hl hb hv hown e.symm)
  · intro k l1 x h1 _ h3 _
    have := (List.getElem?_eq_some_iff.1 h3).1
    simp at this
    omega
  · intro k b' _ h
    rcases get k b' h with ⟨rfl, rfl⟩ | ⟨_, h⟩
    · exact ⟨b, hb, rfl, id, id⟩
    · exact ⟨b', h, rfl, id, id⟩
  · intro k hk h
    rw [List.getElem?_set, if_neg]
    rintro rfl
    rw [hl] at h
    cases h
theorem After.regrow {B : Nat} {ι : Emb} {m : Mem} {w w' : World} (R : Rep B ι m w) {n : Nat} {b nb : Blk} {l : Loc} (hb : m[n]? = some b) (hl : ι n = some l)
    (hv : b.live = true) (hown : b.own = true) (hfree : ι m.length = none) (hes : nb.es = b.es) (hnb : nb.own = true) (hfl : nb.cells.all flat = true)
    {c c' : Array Value} {e : TypeId} {fz : Nat × Nat} {off : Nat} (hc : w.heap[l.g]? = some (.cells c e fz))
    (here : w'.heap[l.g]? = some (.cells c' e fz)) (other : ∀ g, g ≠ l.g → w'.heap[g]? = w.heap[g]?) (hsz : w'.heap.size = w.heap.size) (hs : c'.size = c.size)
    (hfit : off + nb.cells.length ≤ l.top) (hc' : ∀ (i : Nat) v, nb.cells[i]? = some v → ∃ v', c'[off + i]? = some v' ∧ VR ι v v')
    (hos : w'.os = w.os) (ht : w'.tape = w.tape) (hu : w'.output = w.output) :
    After B ι m w (ι.upd m.length ⟨l.g, off, l.top, l.es⟩) (m.set n { b with live := false } ++ [nb]) w' := by
  have hn : n < m.length := (List.getElem?_eq_some_iff.1 hb).1
  have hle : ι.le (ι.upd m.length ⟨l.g, off, l.top, l.es⟩) := Emb.upd_le _ hfree
  have get : ∀ k x, (m.set n { b with live := false } ++ [nb])[k]? = some x → (k = n ∧ x = { b with live := false }) ∨ (k < m.length ∧ k ≠ n ∧ m[k]? = some x) ∨ (k = m.length ∧ x = nb) := by
    intro k x h
    rcases getElem?_snoc h with ⟨h1, h2⟩ | ⟨h1, h2⟩
    · rw [List.getElem?_set] at h2
      simp only [List.length_set] at h1
      split at h2
      · rename_i e
        subst e
        first | rw [if_pos hn] at h2 | skip
        exact .inl ⟨rfl, by simpa using h2.symm⟩
      · exact .inr (.inl ⟨h1, by rintro rfl; simp_all, h2⟩)
    · exact .inr (.inr ⟨by simpa using h1, h2⟩)
  have M := R.cells n l b hl hb hv
  obtain ⟨c0, e0, fz0, m1, m2, m3, m4, m5⟩ := M.ex
  rw [hc] at m1
  cases m1
  have apart : ∀ k l1 x, k ≠ n → ι k = some l1 → m[k]? = some x → x.live = true → l1.g ≠ l.g := fun k l1 x hne h1 h2 h3 e =>
    R.apart n k l l1 b x (fun h => hne h.symm) hl h1 hb h2 hv h3 hown e.symm
  refine { len := by simp, keep := ?_, rep := ⟨?_, ?_, ?_, ?_, ?_, ?_, ?_⟩, frame := ?_, origin := ?_, alive := ?_, fz := fun _ _ h => h, ice := fun _ h => .inl h, unreal := ?_, os := hos, tape := ht, output := hu, size := by rw [hsz]; exact Nat.le_refl _ }
  · intro k h
    apply Emb.upd_ne
    simp at h
    omega
  · intro k l1 x h1 h2 h3
    rcases get k x h2 with ⟨rfl, rfl⟩ | ⟨hk, hne, h⟩ | ⟨rfl, rfl⟩
    · simp at h3
    · rw [Emb.upd_ne _ _ (by omega)] at h1
      have M' := R.cells k l1 x h1 h h3
      exact (M'.mono hle).heap (other _ (apart k l1 x hne h1 h h3))
    · rw [Emb.upd_same] at h1
      cases h1
      refine ⟨⟨c', e, fz, here, by simp only; omega, hfit, ?_, ?_⟩, hfl⟩
      · intro i v hi
        obtain ⟨v', e1, e2⟩ := hc' i v hi
        exact ⟨v', e1, e2.mono hle⟩
      · intro _ i hi
        exact m5 hown i (by omega)
  · intro k k' l1 l2 x x' hne h1 h2 h3 h4 h5 h6 h7
    rcases get k x h3 with ⟨rfl, rfl⟩ | ⟨hk, hkn, h⟩ | ⟨e1, e2⟩
    · simp at h5
    · rw [Emb.upd_ne _ _ (by omega)] at h1
      rcases get k' x' h4 with ⟨rfl, rfl⟩ | ⟨hk', hkn', h'⟩ | ⟨e1', e2'⟩
      · simp at h6
      · rw [Emb.upd_ne _ _ (by omega)] at h2
        exact R.apart k k' l1 l2 x x' hne h1 h2 h h' h5 h6 h7
      · rw [e1', Emb.upd_same] at h2
        cases h2
        exact apart k l1 x hkn h1 h h5
    · rw [e1, Emb.upd_same] at h1
      cases h1
      rcases get k' x' h4 with ⟨rfl, rfl⟩ | ⟨hk', hkn', h'⟩ | ⟨e1', e2'⟩
      · simp at h6
      · rw [Emb.upd_ne _ _ (by omega)] at h2
        exact fun e => apart k' l2 x' hkn' h2 h' h6 e.symm
      · exact absurd (e1.trans e1'.symm) hne
  · intro k l1 x h1 h2 h3 h4
    rcases get k x h2 with ⟨rfl, rfl⟩ | ⟨hk, hne, h⟩ | ⟨e1, e2⟩
    · simp at h3
    · rw [Emb.upd_ne _ _ (by omega)] at h1
      exact R.base k l1 x h1 h h3 h4
    · rw [e1, Emb.upd_same] at h1
      cases h1
      exact R.base n l b hl hb hv hown
  · intro k l1 x h1 h2
    rcases get k x h2 with ⟨rfl, rfl⟩ | ⟨hk, hne, h⟩ | ⟨e1, e2⟩
    · rw [Emb.upd_ne _ _ (by omega)] at h1
      exact R.es _ l1 b h1 hb
    · rw [Emb.upd_ne _ _ (by omega)] at h1
      exact R.es k l1 x h1 h
    · rw [e1, Emb.upd_same] at h1
      cases h1
      rw [e2, hes]
      exact R.es n l b hl hb
  · intro g c1 h
    obtain ⟨e1, z1, hz⟩ := R.frozen g c1 h
    refine ⟨e1, z1, ?_⟩
    rw [other g]
    · exact hz
    · rintro rfl
      rw [Emb.upd_fz, R.cold n l b hl hb hv hown] at h
      cases h
  · intro k l1 x h1 h2 h3 h4
    rcases get k x h2 with ⟨rfl, rfl⟩ | ⟨hk, hne, h⟩ | ⟨e1, e2⟩
    · simp at h3
    · rw [Emb.upd_ne _ _ (by omega)] at h1
      exact R.cold k l1 x h1 h h3 h4
    · rw [e1, Emb.upd_same] at h1
      cases h1
      exact R.cold n l b hl hb hv hown
  · intro k l1 x h1 h2 h3 h4
    rcases get k x h2 with ⟨rfl, rfl⟩ | ⟨hk, hne, h⟩ | ⟨e1, e2⟩
    · simp at h3
    · rw [Emb.upd_ne _ _ (by omega)] at h1
      exact R.kept k l1 x h1 h h3 h4
    · rw [e2, hnb] at h4
      cases h4
  · intro g _ hg
    exact other g (fun e => hg n l b hl hb hv hown e.symm)
  · intro k l1 x h1 h2 h3 _
    rcases get k x h3 with ⟨rfl, rfl⟩ | ⟨hk, hne, h⟩ | ⟨e1, e2⟩
    · omega
    · omega
    · rw [e1, Emb.upd_same] at h2
      cases h2
      exact .inr ⟨n, l, b, hl, hb, hv, hown, rfl⟩
  · intro k b' hk h
    rcases get k b' h with ⟨rfl, rfl⟩ | ⟨_, hne, h⟩ | ⟨e1, e2⟩
    · exact ⟨b, hb, rfl, id, fun h => by simp at h⟩
    · exact ⟨b', h, rfl, id, id⟩
    · omega
  · intro k hk h
    rw [List.getElem?_append_left (by simpa using hk), List.getElem?_set, if_neg]
    rintro rfl
    rw [hl] at h
    cases h
end Go.Ab
namespace Go.Ab
def TD.of (d : TD) (x : TypeDesc) : Prop :=
  match d, x with
  | .int k, .int k' => k = k'
  | .bool, .bool => True
  | .str, .string => True
  | .slice e, .slice e' => e = e'
  | .struct fs, .struct gs => gs.toList.map (fun f => (f.offset, f.type)) = fs
  | .ptr, .pointer _ => True
  | .func, .func _ _ _ => True
  | _, _ => False
structure TyFits (P : Program) (t : Nat) (x : TI) : Prop where
  ex : ∃ i d z, P.info? t = some i ∧ P.underlying t = some d ∧ x.d.of d ∧ i.size = x.size ∧ i.bytes = x.bytes ∧ i.zero = some z ∧ z.cells.toList = x.zero
  const : ∀ v ∈ x.zero, constOk v = true
  len : x.zero.length = x.size
  fields : ∀ fs, x.d = .struct fs → ∀ p ∈ fs, (P.info? p.2).isSome = true
def isOther : TD → Bool
  | .other => true
  | _ => false
def aggD : TD → Bool
  | .struct _ => true
  | _ => false
structure CfgOK (C : Cfg) : Prop where
  ty : ∀ t, isOther (C.ty t).d = false → TyFits C.P t (C.ty t)
  mixed : C.P.follows .mixedOrders = true
  eqs : ∀ t fs, t ∈ C.eqs → (C.ty t).d = .struct fs → ∀ xs ys b w, eqF C fs xs ys = some b →
    (∀ op x y, (eqGuard op t x y (.agg xs) (.agg ys)).run C.P w = .ok () w) ∧ (Op.equal t (.agg xs) (.agg ys)).run C.P w = .ok b w
def TR (ι : Emb) (T : Tm) (tmps : Array Value) : Prop := ∀ t v, T.lookup t = some v → ∃ v', tmps[t]? = some v' ∧ VR ι v v'
theorem TR.mono {ι ι' : Emb} (h : ι.le ι') {T : Tm} {tmps : Array Value} (r : TR ι T tmps) : TR ι' T tmps := fun t v ht =>
  let ⟨v', h1, h2⟩ := r t v ht
  ⟨v', h1, h2.mono h⟩
def GlobOK (C : Cfg) (ι : Emb) : Prop := ∀ g, g < C.G → ∃ l, ι g = some l ∧ l.g = g ∧ l.sh = 0
theorem GlobOK.mono {C : Cfg} {ι ι' : Emb} (h : ι.le ι') (r : GlobOK C ι) : GlobOK C ι' := fun g hg =>
  let ⟨l, h1, h2⟩ := r g hg
  ⟨l, h.loc _ _ h1, h2⟩
def EsOK (ι : Emb) (es : Nat → Option Nat) : Prop := ∀ n l e, ι n = some l → es n = some e → l.es = e
section
variable {C : Cfg} {ι : Emb} {T : Tm} {a : Act}
theorem ev_sound (hT : TR ι T a.tmps) (hG : GlobOK C ι) {x : Operand} {v : Value} (h : ev C T x = some v) : VR ι v (a.eval x) := by
  cases x with
  | tmp t =>
    obtain ⟨v', h1, h2⟩ := hT t v h
    simp only [Act.eval, Array.getD_eq_getD_getElem?, h1, Option.getD_some]
    exact h2
  | const c =>
    simp only [ev] at h
    split at h
    · cases h; exact .const ‹_›
    · cases h
  | global g =>
    simp only [ev] at h
    split at h
    · cases h
      obtain ⟨l, h1, h2, h3⟩ := hG g ‹_›
      have := VR.ptr (ι := ι) g 0 l h1
      rw [h2, h3] at this
      exact this
    · cases h
  | func f =>
    simp only [ev] at h
    cases h
    exact .func _ _ _ _ _ rfl (fun i x y h => by simp at h) rfl (fun i x y h => by simp at h)
theorem evL_sound (hT : TR ι T a.tmps) (hG : GlobOK C ι) : ∀ {xs : List Operand} {vs : List Value}, evL C T xs = some vs → VRL ι vs (xs.map a.eval)
  | [], vs, h => by simp only [evL] at h; cases h; exact .nil
  | x :: xs, vs, h => by
    simp only [evL] at h
    cases hx : ev C T x with
    | none => rw [hx] at h; cases h
    | some v =>
      rw [hx] at h
      cases hxs : evL C T xs with
      | none => rw [hxs] at h; cases h
      | some us =>
        rw [hxs] at h
        cases h
        exact .cons (ev_sound hT hG hx) (evL_sound hT hG hxs)
def VRP (ι : Emb) (ps qs : List (Nat × Value)) : Prop := ps.map (·.1) = qs.map (·.1) ∧ VRL ι (ps.map (·.2)) (qs.map (·.2))
theorem evP_sound (hT : TR ι T a.tmps) (hG : GlobOK C ι) : ∀ {xs : List (Nat × Operand)} {vs : List (Nat × Value)}, evP C T xs = some vs → VRP ι vs (xs.map fun (i, x) => (i, a.eval x))
  | [], vs, h => by simp only [evP] at h; cases h; exact ⟨rfl, .nil⟩
  | (i, x) :: xs, vs, h => by
    simp only [evP] at h
    cases hx : ev C T x with
    | none => rw [hx] at h; cases h
    | some v =>
      rw [hx] at h
      cases hxs : evP C T xs with
      | none => rw [hxs] at h; cases h
      | some us =>
        rw [hxs] at h
        cases h
        have := evP_sound hT hG hxs
        exact ⟨by simpa using this.1, .cons (ev_sound hT hG hx) this.2⟩
variable (hC : CfgOK C)
include hC
theorem ty_fits {t : Nat} {d : TD} (h : (C.ty t).d = d) (hd : isOther d = false) : TyFits C.P t (C.ty t) := hC.ty t (by rw [h]; exact hd)
theorem under_slice {t e : Nat} (h : (C.ty t).d = .slice e) : C.P.underlying t = some (.slice e) := by
  obtain ⟨i, d, z, _, h2, h3, _⟩ := (ty_fits hC h rfl).ex
  rw [h] at h3
  cases d <;> simp [TD.of] at h3
  rw [h2, h3]
theorem under_int {t : Nat} {k : IntKind} (h : (C.ty t).d = .int k) : C.P.underlying t = some (.int k) := by
  obtain ⟨i, d, z, _, h2, h3, _⟩ := (ty_fits hC h rfl).ex
  rw [h] at h3
  cases d <;> simp [TD.of] at h3
  rw [h2, h3]
theorem under_str {t : Nat} (h : (C.ty t).d = .str) : C.P.underlying t = some .string := by
  obtain ⟨i, d, z, _, h2, h3, _⟩ := (ty_fits hC h rfl).ex
  rw [h] at h3
  cases d <;> simp [TD.of] at h3
  rw [h2]
theorem under_bool {t : Nat} (h : (C.ty t).d = .bool) : C.P.underlying t = some .bool := by
  obtain ⟨i, d, z, _, h2, h3, _⟩ := (ty_fits hC h rfl).ex
  rw [h] at h3
  cases d <;> simp [TD.of] at h3
  rw [h2]
theorem under_struct {t : Nat} {fs : List (Nat × Nat)} (h : (C.ty t).d = .struct fs) : ∃ gs : Array Field, C.P.underlying t = some (.struct gs) ∧ gs.toList.map (fun f => (f.offset, f.type)) = fs := by
  obtain ⟨i, d, z, _, h2, h3, _⟩ := (ty_fits hC h rfl).ex
  rw [h] at h3
  cases d <;> simp [TD.of] at h3
  exact ⟨_, h2, h3⟩
theorem under_ptr {t : Nat} (h : (C.ty t).d = .ptr) : ∃ e, C.P.underlying t = some (.pointer e) := by
  obtain ⟨i, d, z, _, h2, h3, _⟩ := (ty_fits hC h rfl).ex
  rw [h] at h3
  cases d <;> simp [TD.of] at h3
  exact ⟨_, h2⟩
theorem under_func {t : Nat} (h : (C.ty t).d = .func) : ∃ a b c, C.P.underlying t = some (.func a b c) := by
  obtain ⟨i, d, z, _, h2, h3, _⟩ := (ty_fits hC h rfl).ex
  rw [h] at h3
  cases d <;> simp [TD.of] at h3
  exact ⟨_, _, _, h2⟩
theorem size_run {t : Nat} {d : TD} (h : (C.ty t).d = d) (hd : isOther d = false) (w : World) : (sizeOf t).run C.P w = .ok (C.ty t).size w := by
  obtain ⟨i, _, z, h1, _, _, h4, _⟩ := (ty_fits hC h hd).ex
  simp [sizeOf, typeInfo, h1, h4]
theorem info_run {t : Nat} {d : TD} (h : (C.ty t).d = d) (hd : isOther d = false) (w : World) : ∃ i z, C.P.info? t = some i ∧ (typeInfo t).run C.P w = .ok i w ∧ i.size = (C.ty t).size ∧ i.bytes = (C.ty t).bytes ∧ i.zero = some z ∧ z.cells.toList = (C.ty t).zero := by
  obtain ⟨i, _, z, h1, _, _, h4, h5, h6, h7⟩ := (ty_fits hC h hd).ex
  exact ⟨i, z, h1, by simp [typeInfo, h1], h4, h5, h6, h7⟩
theorem zero_run {t : Nat} {d : TD} (h : (C.ty t).d = d) (hd : isOther d = false) (w : World) : ∃ z, (zeroValue t).run C.P w = .ok z w ∧ z.cells.toList = (C.ty t).zero := by
  obtain ⟨i, z, _, h1, _, _, h4, h5⟩ := info_run hC h hd w
  exact ⟨z, by simp [zeroValue, h1, h4], h5⟩
theorem isAgg_run {t : Nat} {d : TD} (h : (C.ty t).d = d) (hd : isOther d = false) (w : World) : (isAgg t).run C.P w = .ok (aggD d) w := by
  obtain ⟨i, x, z, _, h2, h3, _⟩ := (ty_fits hC h hd).ex
  rw [h] at h3
  unfold isAgg
  simp only [Sem.run_bind, run_underlying h2, Result.andThen_ok]
  cases d <;> cases x <;> simp [TD.of] at h3 <;> simp [aggD]
omit hC in
theorem VRL.extract {xs ys : Array Value} (h : VRL ι xs.toList ys.toList) (i j : Nat) : VRL ι (xs.extract i j).toList (ys.extract i j).toList := by
  simp only [Array.toList_extract, List.extract_eq_take_drop]
  exact (h.drop i).take _
omit hC in
theorem VRL.agg' {xs ys : Array Value} (h : VRL ι xs.toList ys.toList) : VR ι (.agg xs) (.agg ys) := by simpa using h.agg
theorem part_sound {t off : Nat} {cs cs' : Array Value} {v : Value} (hcs : VRL ι cs.toList cs'.toList) (h : part C t cs off = some v) :
    ∃ v', VR ι v v' ∧ ∀ w, (Go.part t cs' off).run C.P w = .ok v' w := by
  have one : ∀ d, (C.ty t).d = d → isOther d = false → (aggD d) = false → cs[off]? = some v → ∃ v', VR ι v v' ∧ ∀ w, (Go.part t cs' off).run C.P w = .ok v' w := by
    intro d hd ho hs hv
    obtain ⟨y, hy, r⟩ := hcs.get (i := off) (by simpa using hv)
    refine ⟨y, r, fun w => ?_⟩
    unfold Go.part
    have hy' : cs'[off]? = some y := by simpa using hy
    simp [isAgg_run hC hd ho w, hs, hy']
  unfold part at h
  cases hd : (C.ty t).d with
  | other => simp [hd] at h
  | struct fs =>
    simp only [hd, Option.some.injEq] at h
    subst h
    refine ⟨.agg (cs'.extract off (off + (C.ty t).size)), (hcs.extract _ _).agg', fun w => ?_⟩
    unfold Go.part
    simp [isAgg_run hC hd rfl w, size_run hC hd rfl w, aggD]
  | int k => exact one _ hd rfl rfl (by simpa [hd] using h)
  | bool => exact one _ hd rfl rfl (by simpa [hd] using h)
  | str => exact one _ hd rfl rfl (by simpa [hd] using h)
  | slice e => exact one _ hd rfl rfl (by simpa [hd] using h)
  | ptr => exact one _ hd rfl rfl (by simpa [hd] using h)
  | func => exact one _ hd rfl rfl (by simpa [hd] using h)
  | tuple => exact one _ hd rfl rfl (by simpa [hd] using h)
theorem field_sound {t f : Nat} {x x' v : Value} (hx : VR ι x x') (h : fieldOf C t x f = some v) : ∃ v', VR ι v v' ∧ ∀ w, (Instr.field t x' f).run C.P w = .ok v' w := by
  unfold fieldOf at h
  split at h
  · rename_i fs cs hd
    cases hx with
    | agg _ cs' h1 h2 =>
    cases hf : fs[f]? with
    | none => rw [hf] at h; cases h
    | some p =>
      obtain ⟨off, ft⟩ := p
      rw [hf] at h
      obtain ⟨v', r, hr⟩ := part_sound hC (VR.arr h1 h2) h
      refine ⟨v', r, fun w => ?_⟩
      obtain ⟨gs, hu, hg⟩ := under_struct hC hd
      have : ∃ g, gs[f]? = some g ∧ g.offset = off ∧ g.type = ft := by
        rw [← hg, List.getElem?_map] at hf
        cases hgf : gs.toList[f]? with
        | none => rw [hgf] at hf; cases hf
        | some g =>
          rw [hgf] at hf
          simp only [Option.map_some, Option.some.injEq, Prod.mk.injEq] at hf
          exact ⟨g, by simpa using hgf, hf⟩
      obtain ⟨g, hg1, rfl, rfl⟩ := this
      unfold Instr.field
      simp [run_underlying hu, hg1, asAgg, hr]
  · cases h
theorem struct_field {t f off ft : Nat} {fs : List (Nat × Nat)} (hd : (C.ty t).d = .struct fs) (hf : fs[f]? = some (off, ft)) :
    ∃ gs g, C.P.underlying t = some (.struct gs) ∧ gs[f]? = some g ∧ g.offset = off ∧ g.type = ft := by
  obtain ⟨gs, hu, hg⟩ := under_struct hC hd
  rw [← hg, List.getElem?_map] at hf
  cases hgf : gs.toList[f]? with
  | none => rw [hgf] at hf; cases hf
  | some g =>
    rw [hgf] at hf
    simp only [Option.map_some, Option.some.injEq, Prod.mk.injEq] at hf
    exact ⟨gs, g, hu, by simpa using hgf, hf⟩
theorem fieldAddr_sound {t f : Nat} {x x' v : Value} (hx : VR ι x x') (h : fieldAddrOf C t x f = some v) : ∃ v', VR ι v v' ∧ ∀ w, (Instr.fieldAt t x' f).run C.P w = .ok v' w := by
  unfold fieldAddrOf at h
  split at h
  · rename_i fs ad hd
    cases hx with
    | ptr n o l hl =>
    cases hf : fs[f]? with
    | none => rw [hf] at h; cases h
    | some p =>
      obtain ⟨off, ft⟩ := p
      rw [hf] at h
      obtain ⟨gs, g, hu, hg1, rfl, rfl⟩ := struct_field hC hd hf
      have key : ∀ d, (C.ty g.type).d = d → isOther d = false → (if (C.ty g.type).size = 0 then none else some (Value.pointer (some ⟨n, o + g.offset, none⟩))) = some v →
          ∃ v', VR ι v v' ∧ ∀ w, (Instr.fieldAt t (.pointer (some ⟨l.g, l.sh + o, none⟩)) f).run C.P w = .ok v' w := by
        intro d hd' ho h
        split at h
        · cases h
        · rename_i hz
          cases h
          refine ⟨_, .ptr n (o + g.offset) l hl, fun w => ?_⟩
          unfold Instr.fieldAt
          simp [run_underlying hu, hg1, Instr.sureAddr, fieldPlace, size_run hC hd' ho w, hz, Addr.add_lit, Nat.add_assoc]
      cases hd' : (C.ty g.type).d with
      | other => simp [hd'] at h
      | _ => exact key _ hd' rfl (by simpa [hd'] using h)
  · rename_i fs cs hd
    cases hx with
    | rop _ g0 off0 c hz hs hr hfl =>
    cases hf : fs[f]? with
    | none => rw [hf] at h; cases h
    | some p =>
      obtain ⟨off, ft⟩ := p
      rw [hf] at h
      obtain ⟨gs, g, hu, hg1, rfl, rfl⟩ := struct_field hC hd hf
      have key : ∀ d, (C.ty g.type).d = d → isOther d = false → (if (C.ty g.type).size = 0 then none else some (roP (cs.toList.drop g.offset))) = some v →
          ∃ v', VR ι v v' ∧ ∀ w, (Instr.fieldAt t (.pointer (some ⟨g0, off0, none⟩)) f).run C.P w = .ok v' w := by
        intro d hd' ho h
        split at h
        · cases h
        · rename_i hz'
          cases h
          obtain ⟨q1, q2, q3⟩ := ro_part hs hr g.offset (drop_get (cs := cs) g.offset) hfl
          refine ⟨_, .rop _ g0 (off0 + g.offset) c hz q1 q2 q3, fun w => ?_⟩
          unfold Instr.fieldAt
          simp [run_underlying hu, hg1, Instr.sureAddr, fieldPlace, size_run hC hd' ho w, hz', Addr.add_lit]
      cases hd' : (C.ty g.type).d with
      | other => simp [hd'] at h
      | _ => exact key _ hd' rfl (by simpa [hd'] using h)
  · cases h
theorem indexAddr_sound {t : Nat} {x x' i i' v : Value} (hx : VR ι x x') (hi : VR ι i i') (h : indexAddrOf C t x i = some v) : ∃ v', VR ι v v' ∧ ∀ w, (Instr.indexAt t x' i').run C.P w = .ok v' w := by
  unfold indexAddrOf at h
  split at h
  · rename_i e ad len cap k j hd
    cases hi
    cases hx with
    | sl n o _ acap l off ccap hl h1 h2 h3 h4 =>
    have key : ∀ d, (C.ty e).d = d → isOther d = false → (if 0 ≤ j ∧ j < len then some (Value.pointer (some ⟨n, o + j.toNat * (C.ty e).size, none⟩)) else none) = some v →
        ∃ v', VR ι v v' ∧ ∀ w, (Instr.indexAt t (.slice (some ⟨l.g, off, none⟩) len ccap) (.int k j)).run C.P w = .ok v' w := by
      intro d hd' ho h
      split at h
      · rename_i hj
        cases h
        have hoff : off = l.sh + o := h4.resolve_left (by omega)
        subst hoff
        refine ⟨_, .ptr n (o + j.toNat * (C.ty e).size) l hl, fun w => ?_⟩
        unfold Instr.indexAt
        simp [asIntOf, run_underlying (under_slice hC hd), size_run hC hd' ho w, hj.1, hj.2, Addr.add_lit, Nat.add_assoc]
      · cases h
    cases hd' : (C.ty e).d with
    | other => simp [hd'] at h
    | _ => exact key _ hd' rfl (by simpa [hd'] using h)
  · rename_i e len cs k j hd
    cases hi
    have key : ∀ d, (C.ty e).d = d → isOther d = false → (if 0 ≤ j ∧ j < len then some (roP ((cs.toList.drop (j.toNat * (C.ty e).size)).take (C.ty e).size)) else none) = some v →
        ∃ v', VR ι v v' ∧ ∀ w, (Instr.indexAt t x' (.int k j)).run C.P w = .ok v' w := by
      intro d hd' ho h
      split at h
      · rename_i hj
        cases h
        cases hx with
        | ro _ _ g0 off0 ccap c hz hs hl hr hfl =>
          obtain ⟨q1, q2, q3⟩ := ro_part hs hr _ (take_drop_get (cs := cs) (j.toNat * (C.ty e).size) (C.ty e).size) hfl
          refine ⟨_, .rop _ g0 (off0 + j.toNat * (C.ty e).size) c hz q1 q2 q3, fun w => ?_⟩
          unfold Instr.indexAt
          simp [asIntOf, run_underlying (under_slice hC hd), size_run hC hd' ho w, hj.1, hj.2, Addr.add_lit]
        | ro0 a ccap ha => omega
      · cases h
    cases hd' : (C.ty e).d with
    | other => simp [hd'] at h
    | _ => exact key _ hd' rfl (by simpa [hd'] using h)
  · cases h
theorem index_sound {t : Nat} {x x' i i' v : Value} (hx : VR ι x x') (hi : VR ι i i') (h : indexOf C t x i = some v) : ∃ v', VR ι v v' ∧ ∀ w, (Instr.index t x' i').run C.P w = .ok v' w := by
  unfold indexOf at h
  split at h
  · rename_i s k j hd
    cases hi
    cases hx
    split at h
    · rename_i hj
      cases hb : s[j.toNat]? with
      | none => rw [hb] at h; cases h
      | some b =>
        rw [hb] at h
        cases h
        refine ⟨_, .int _ _, fun w => ?_⟩
        unfold Instr.index
        simp [asIntOf, run_underlying (under_str hC hd), hj, hb]
    · cases h
  · cases h
omit hC in
theorem bound_sound {v : Option (Option Value)} {dflt l : Nat} (h : boundOf v dflt = some l) :
    (v = none ∧ l = dflt) ∨ ∃ k i, v = some (some (.int k i)) ∧ 0 ≤ i ∧ l = i.toNat := by
  unfold boundOf at h
  split at h
  · cases h; exact .inl ⟨rfl, rfl⟩
  · split at h
    · cases h; exact .inr ⟨_, _, rfl, ‹_›, rfl⟩
    · cases h
  · cases h
omit hC in
theorem sliceBound_run {x : Value} {y : Nat} {code : BoundsCode} {k : IntKind} {i : Int} (hx : x = .int k i) (h0 : 0 ≤ i) (h1 : i.toNat ≤ y) (w : World) :
    (Instr.sliceBound x y code).run C.P w = .ok i.toNat w := by
  subst hx
  unfold Instr.sliceBound
  have : i ≤ (y : Int) := by omega
  simp [asIntOf, h0, this]
def BoundIs (v : Option (Option Value)) (v' : Option Value) : Prop := (v = none ∧ v' = none) ∨ ∃ k i, v = some (some (.int k i)) ∧ v' = some (.int k i)
omit hC in
theorem sliceBounds_run {isS : Bool} {len cap l h : Nat} {lo hi : Option (Option Value)} {lo' hi' : Option Value} (a1 : BoundIs lo lo') (a2 : BoundIs hi hi')
    (b1 : boundOf lo 0 = some l) (b2 : boundOf hi len = some h) (c1 : l ≤ h) (c2 : h ≤ cap) (w : World) :
    (Instr.sliceBounds isS len cap lo' hi' none).run C.P w = .ok (l, h, cap) w := by
  unfold Instr.sliceBounds
  rcases a2 with ⟨rfl, rfl⟩ | ⟨k, i, rfl, rfl⟩
  · rcases bound_sound b2 with ⟨_, rfl⟩ | ⟨_, _, e, _⟩
    · rcases a1 with ⟨rfl, rfl⟩ | ⟨k', j, rfl, rfl⟩
      · rcases bound_sound b1 with ⟨_, rfl⟩ | ⟨_, _, e, _⟩
        · simp
        · cases e
      · rcases bound_sound b1 with ⟨e, _⟩ | ⟨_, _, e, h0, rfl⟩
        · cases e
        · simp only [Option.some.injEq, Value.int.injEq] at e
          obtain ⟨rfl, rfl⟩ := e
          simp [sliceBound_run (C := C) rfl h0 c1 w]
    · cases e
  · rcases bound_sound b2 with ⟨e, _⟩ | ⟨_, _, e, h0', rfl⟩
    · cases e
    · simp only [Option.some.injEq, Value.int.injEq] at e
      obtain ⟨rfl, rfl⟩ := e
      rcases a1 with ⟨rfl, rfl⟩ | ⟨k', j, rfl, rfl⟩
      · rcases bound_sound b1 with ⟨_, rfl⟩ | ⟨_, _, e, _⟩
        · simp [sliceBound_run (C := C) rfl h0' c2 w]
        · cases e
      · rcases bound_sound b1 with ⟨e, _⟩ | ⟨_, _, e, h0, rfl⟩
        · cases e
        · simp only [Option.some.injEq, Value.int.injEq] at e
          obtain ⟨rfl, rfl⟩ := e
          simp [sliceBound_run (C := C) rfl h0' c2 w, sliceBound_run (C := C) rfl h0 c1 w]
theorem slice_sound {es : Nat → Option Nat} (hes : EsOK ι es) {t : Nat} {x x' v : Value} {lo hi : Option (Option Value)} {lo' hi' : Option Value} (hx : VR ι x x') (a1 : BoundIs lo lo') (a2 : BoundIs hi hi')
    (h : sliceOf C es t x lo hi = some v) : ∃ v', VR ι v v' ∧ ∀ w, (Instr.sliceAt t x' lo' hi' none).run C.P w = .ok v' w := by
  unfold sliceOf at h
  split at h
  · rename_i s hd
    cases hx
    split at h
    · rename_i l k b1 b2
      split at h
      · rename_i c
        cases h
        refine ⟨_, .string _, fun w => ?_⟩
        unfold Instr.sliceAt Instr.slice
        simp [run_underlying (under_str hC hd), sliceBounds_run (C := C) a1 a2 b1 b2 c.1 c.2 w]
      · cases h
    · cases h
  · rename_i e ad len cap hd
    have key : ∀ d, (C.ty e).d = d → isOther d = false → sliceIn es (C.ty e).size ad len cap lo hi = some v → ∃ v', VR ι v v' ∧ ∀ w, (Instr.sliceAt t x' lo' hi' none).run C.P w = .ok v' w := by
      intro d hd' ho q
      clear h
      unfold sliceIn at q
      split at q
      · rename_i l k b1 b2
        split at q
        · rename_i c
          cases hx with
          | slNil a ha =>
            cases q
            have hk : k = 0 := by omega
            have hl : l = 0 := by omega
            subst hk; subst hl
            refine ⟨_, .slNil a ha, fun w => ?_⟩
            unfold Instr.sliceAt Instr.slice
            simp [run_underlying (under_slice hC hd), sliceBounds_run (C := C) a1 a2 b1 b2 c.1 c.2 w, size_run hC hd' ho w]
          | sl n o _ acap l0 off ccap hl h1 h2 h3 h4 =>
            simp only at q
            split at q
            · rename_i he
              cases q
              have hsz : l0.es = (C.ty e).size := hes n l0 _ hl he
              have hrun : ∀ w, (Instr.sliceAt t (.slice (some ⟨l0.g, off, none⟩) len ccap) lo' hi' none).run C.P w = .ok (.slice (some (if ccap = l then ⟨l0.g, off, none⟩ else ⟨l0.g, off + l * (C.ty e).size, none⟩)) (k - l) (ccap - l)) w := by
                intro w
                unfold Instr.sliceAt Instr.slice
                simp [run_underlying (under_slice hC hd), sliceBounds_run (C := C) a1 a2 b1 b2 c.1 (Nat.le_trans c.2 h2) w, size_run hC hd' ho w, Addr.add_lit]
                split <;> simp_all
              refine ⟨_, ?_, hrun⟩
              by_cases hcl : cap = l
              · subst hcl
                have hk : k - cap = 0 := by omega
                rw [if_pos rfl, hk, Nat.sub_self]
                by_cases hcc : ccap = cap
                · subst hcc
                  rw [if_pos rfl, Nat.sub_self]
                  exact .sl n o 0 0 l0 off 0 hl (Nat.le_refl _) (Nat.le_refl _) (by have := Nat.le_trans (Nat.le_add_right off (ccap * l0.es)) h3; simpa using this) (.inl rfl)
                · rw [if_neg hcc]
                  refine .sl n o 0 0 l0 _ _ hl (Nat.le_refl _) (Nat.zero_le _) ?_ (.inl rfl)
                  rw [← hsz]
                  have : off + cap * l0.es + (ccap - cap) * l0.es = off + ccap * l0.es := by
                    rw [Nat.add_assoc, ← Nat.add_mul, Nat.add_sub_of_le h2]
                  omega
              · have hcc : ccap ≠ l := by omega
                rw [if_neg hcl, if_neg hcc]
                have hoff : off = l0.sh + o := h4.resolve_left (by omega)
                refine .sl n _ _ _ l0 _ _ hl (by omega) (by omega) ?_ (.inr (by omega))
                rw [← hsz]
                have : off + l * l0.es + (ccap - l) * l0.es = off + ccap * l0.es := by
                  rw [Nat.add_assoc, ← Nat.add_mul, Nat.add_sub_of_le (by omega)]
                omega
            · cases q
        · cases q
      · cases q
    cases hd' : (C.ty e).d with
    | other => simp [hd'] at h
    | _ => exact key _ hd' rfl (by simpa [hd'] using h)
  · rename_i e len cs hd
    have key : ∀ d, (C.ty e).d = d → isOther d = false → roPart (C.ty e).size len cs lo hi = some v → ∃ v', VR ι v v' ∧ ∀ w, (Instr.sliceAt t x' lo' hi' none).run C.P w = .ok v' w := by
      intro d hd' ho q
      clear h
      unfold roPart at q
      split at q
      · rename_i l k b1 b2
        split at q
        · rename_i c
          cases q
          have hrun : ∀ a ccap, len ≤ ccap → ∀ w, (Instr.sliceAt t (.slice a len ccap) lo' hi' none).run C.P w = .ok (.slice (if ccap = l then a else a.map (·.add (l * (C.ty e).size))) (k - l) (ccap - l)) w := by
            intro a ccap hcc w
            unfold Instr.sliceAt Instr.slice
            simp [run_underlying (under_slice hC hd), sliceBounds_run (C := C) a1 a2 b1 b2 c.1 (Nat.le_trans c.2 hcc) w, size_run hC hd' ho w]
          have empty : ∀ a ccap, plainA a → k - l = 0 → VR ι (roS (k - l) ((cs.toList.drop (l * (C.ty e).size)).take ((k - l) * (C.ty e).size))) (.slice (if ccap = l then a else a.map (·.add (l * (C.ty e).size))) (k - l) (ccap - l)) := by
            intro a ccap ha h0
            rw [h0]
            simp only [roS, Nat.zero_mul, List.take_zero]
            refine .ro0 _ _ ?_
            split
            · exact ha
            · exact ha.add _
          cases hx with
          | ro _ _ g0 off0 ccap c0 hz hs hl hr hfl =>
            refine ⟨_, ?_, hrun _ ccap hl⟩
            rcases Nat.eq_zero_or_pos (k - l) with h0 | h0
            · exact empty _ ccap (plainA.some _ _) h0
            · obtain ⟨q1, q2, q3⟩ := ro_part hs hr _ (take_drop_get (cs := cs) (l * (C.ty e).size) ((k - l) * (C.ty e).size)) hfl
              have hne : ccap ≠ l := by omega
              rw [if_neg hne]
              simp only [Option.map_some, Addr.add_lit]
              exact .ro _ _ g0 _ _ c0 hz q1 (by omega) q2 q3
          | ro0 a ccap ha => exact ⟨_, empty a ccap ha (by omega), hrun a ccap (Nat.zero_le _)⟩
        · cases q
      · cases q
    cases hd' : (C.ty e).d with
    | other => simp [hd'] at h
    | _ => exact key _ hd' rfl (by simpa [hd'] using h)
  · cases h
theorem cut_sound {t : Nat} {x x' v : Value} {lo hi mx : Option (Option Value)} {lo' hi' mx' : Option Value} (hx : VR ι x x') (a1 : BoundIs lo lo') (a2 : BoundIs hi hi') (a3 : BoundIs mx mx') (hh : hi ≠ none) (hm : mx ≠ none)
    (h : cutOf C t x lo hi mx = some v) : ∃ v', VR ι v v' ∧ ∀ w, (Instr.sliceAt t x' lo' hi' mx').run C.P w = .ok v' w := by
  unfold cutOf at h
  split at h
  · rename_i e hd b1 b2 b3
    have hbounds : ∀ len cap w, (Instr.sliceBounds true len cap lo' hi' mx').run C.P w = .ok (0, 0, 0) w := by
      intro len cap w
      have zero : ∀ {v : Option (Option Value)} {v' : Option Value} {y : Nat} {code : BoundsCode}, v ≠ none → BoundIs v v' → boundOf v 0 = some 0 → ∃ u, v' = some u ∧ ∀ y code, (Instr.sliceBound u y code).run C.P w = .ok 0 w := by
        intro v v' _ _ hn hb h0
        rcases hb with ⟨rfl, _⟩ | ⟨k, i, rfl, rfl⟩
        · exact absurd rfl hn
        · rcases bound_sound h0 with ⟨e, _⟩ | ⟨_, _, e, hi0, he⟩
          · cases e
          · simp only [Option.some.injEq, Value.int.injEq] at e
            obtain ⟨rfl, rfl⟩ := e
            exact ⟨_, rfl, fun y code => by rw [sliceBound_run (C := C) rfl hi0 (by omega) w, ← he]⟩
      obtain ⟨u2, rfl, r2⟩ := zero (y := 0) (code := .slice3B) hh a2 b2
      obtain ⟨u3, rfl, r3⟩ := zero (y := 0) (code := .slice3B) hm a3 b3
      unfold Instr.sliceBounds
      by_cases hl : lo = none
      · rcases a1 with ⟨_, rfl⟩ | ⟨_, _, e, _⟩
        · simp [r2, r3]
        · rw [hl] at e; cases e
      · obtain ⟨u1, rfl, r1⟩ := zero (y := 0) (code := .slice3B) hl a1 b1
        simp [r1, r2, r3]
    have hrun : ∀ d, (C.ty e).d = d → isOther d = false → ∀ a len cap w, ∃ a', (Instr.sliceAt t (.slice a len cap) lo' hi' mx').run C.P w = .ok (.slice a' 0 0) w ∧ a' = a := by
      intro d hd' ho a len cap w
      refine ⟨a, ?_, rfl⟩
      unfold Instr.sliceAt Instr.slice
      simp [run_underlying (under_slice hC hd), hbounds, size_run hC hd' ho w]
    have fin : ∀ d, (C.ty e).d = d → isOther d = false → ∀ a len cap, x' = .slice a len cap → plainA a → ∃ v', VR ι (.slice none 0 0) v' ∧ ∀ w, (Instr.sliceAt t x' lo' hi' mx').run C.P w = .ok v' w := by
      intro d hd' ho a len cap hx' ha
      refine ⟨.slice a 0 0, .slNil a ha, fun w => ?_⟩
      obtain ⟨_, q, rfl⟩ := hrun d hd' ho a len cap w
      rw [hx']; exact q
    split at h
    · cases h
    · rename_i hno
      cases h
      have hoth : isOther (C.ty e).d = false := by cases hd' : (C.ty e).d <;> first | rfl | exact absurd hd' hno
      cases hx with
      | slNil a ha => exact fin _ rfl hoth a _ _ rfl ha
      | sl n o _ acap l off ccap _ _ _ _ _ => exact fin _ rfl hoth _ _ _ rfl (plainA.some _ _)
    · rename_i hno
      cases h
      have hoth : isOther (C.ty e).d = false := by cases hd' : (C.ty e).d <;> first | rfl | exact absurd hd' hno
      cases hx with
      | ro _ _ g0 off0 ccap c0 hz hs hl hr hfl => exact fin _ rfl hoth _ _ _ rfl (plainA.some _ _)
      | ro0 a ccap ha => exact fin _ rfl hoth a _ _ rfl ha
    · cases h
  · cases h
end
end Go.Ab
namespace Go.Ab
section
variable {C : Cfg} {ι : Emb} {T : Tm} {a : Act}
theorem foldl_set_list (cs : List Value) (vs : List Value) (off k : Nat) (h : off + k + vs.length ≤ cs.length) :
    ((vs.zipIdx k).foldl (fun (c : Array Value) (p : Value × Nat) => c.setIfInBounds (off + p.2) p.1) cs.toArray) = (splice cs (off + k) vs).toArray := by
  induction vs generalizing cs k with
  | nil => simp [splice]
  | cons v vs ih =>
    have hk : off + k < cs.length := by simp at h; omega
    simp only [List.zipIdx_cons, List.foldl_cons, List.setIfInBounds_toArray]
    rw [ih (cs.set (off + k) v) (k + 1) (by simp at h ⊢; omega)]
    congr 1
    have := list_seg_step cs (off + k) v vs (by simp at h; omega)
    unfold splice
    simp only [Nat.add_assoc, List.length_cons] at this ⊢
    rw [show off + (k + (vs.length + 1)) = off + (k + (vs.length + 1)) from rfl]
    simpa [Nat.add_assoc] using this
theorem VRL.splice {xs ys vs us : List Value} (h : VRL ι xs ys) (g : VRL ι vs us) (o : Nat) : VRL ι (splice xs o vs) (splice ys o us) := by
  unfold Ab.splice
  rw [← g.1]
  exact ((h.take o).append g).append (h.drop _)
theorem VRP.cases_cons {i : Nat} {v : Value} {ps qs : List (Nat × Value)} (h : VRP ι ((i, v) :: ps) qs) : ∃ u rs, qs = (i, u) :: rs ∧ VR ι v u ∧ VRP ι ps rs := by
  cases qs with
  | nil => have := h.1; simp at this
  | cons q rs =>
    obtain ⟨j, u⟩ := q
    have h1 := h.1
    simp at h1
    obtain ⟨rfl, h1⟩ := h1
    exact ⟨u, rs, rfl, h.2.head, h1, h.2.tail⟩
theorem VRP.cases_nil {qs : List (Nat × Value)} (h : VRP ι [] qs) : qs = [] := by
  cases qs with
  | nil => rfl
  | cons q rs => have := h.1; simp at this
theorem fill_sound {place place' : Nat → Option (Nat × Nat)} (hp : ∀ i x, place i = some x → place' i = some x) : ∀ {ps qs : List (Nat × Value)} {cs ds r : List Value},
    VRP ι ps qs → VRL ι cs ds → fillL place cs ps = some r → ∃ r', Instr.fill place' ds.toArray qs = some r'.toArray ∧ VRL ι r r'
  | [], qs, cs, ds, r, h, hc, hf => by
    rw [h.cases_nil]
    simp only [fillL] at hf
    cases hf
    exact ⟨ds, rfl, hc⟩
  | (i, v) :: ps, qs, cs, ds, r, h, hc, hf => by
    obtain ⟨u, rs, rfl, hv, ht⟩ := h.cases_cons
    rw [fillL_cons] at hf
    cases hpl : place i with
    | none => rw [hpl] at hf; cases hf
    | some x =>
      obtain ⟨off, size⟩ := x
      rw [hpl] at hf
      simp only at hf
      split at hf
      · rename_i hs
        obtain ⟨hs1, hs2⟩ := hs
        have hvc := hv.cells
        have hus : u.cells.size = size := by
          have := hvc.1
          simp only [Array.length_toList] at this
          omega
        obtain ⟨r', e, hr⟩ := fill_sound hp ht (hc.splice hvc off) hf
        refine ⟨r', ?_, hr⟩
        simp only [Instr.fill, hp i _ hpl]
        have hcl := hc.1
        rw [if_neg (by simp only [List.size_toArray, ne_eq, Bool.or_eq_true, decide_eq_true_eq]; omega)]
        have hfold := foldl_set_list ds u.cells.toList off 0 (by simp only [Array.length_toList]; omega)
        simp only [Nat.add_zero] at hfold
        rw [← e, ← hfold]
        congr 1
        rw [← Array.foldl_toList]
        congr 1
        simp
      · cases hf
variable (hC : CfgOK C)
include hC
omit hC in
theorem mapM_places (gs : List Field) (hk : ∀ g ∈ gs, (C.P.info? g.type).isSome = true) (w : World) :
    (gs.mapM (m := Sem) (fun f => do pure (f.offset, ← sizeOf f.type) : Field → Sem (Nat × Nat))).run C.P w = .ok (gs.map fun f => (f.offset, C.P.cellsOf f.type)) w := by
  induction gs with
  | nil => simp
  | cons g gs ih =>
    have h1 : (sizeOf g.type).run C.P w = .ok (C.P.cellsOf g.type) w := by
      obtain ⟨i, hi⟩ := Option.isSome_iff_exists.1 (hk g (by simp))
      exact run_sizeOf w hi
    have h2 := ih fun x hx => hk x (by simp [hx])
    simp only [List.mapM_cons, Sem.run_bind, h1, Result.andThen_ok, Sem.run_pure, h2, List.map_cons]
theorem cells_of {t : Nat} {d : TD} (h : (C.ty t).d = d) (hd : isOther d = false) : C.P.cellsOf t = (C.ty t).size := by
  obtain ⟨i, _, z, h1, _, _, h4, _⟩ := (ty_fits hC h hd).ex
  simp [Program.cellsOf, h1, h4]
theorem build_sound {t : Nat} {ps qs : List (Nat × Value)} {v : Value} (hp : VRP ι ps qs) (h : buildOf C t ps = some v) :
    ∃ v', VR ι v v' ∧ ∀ w, (Instr.build t qs.toArray).run C.P w = .ok v' w := by
  unfold buildOf at h
  split at h
  · rename_i fs hd
    cases hf : fillL (structPlace C fs) (C.ty t).zero ps with
    | none => rw [hf] at h; cases h
    | some r =>
      rw [hf] at h
      cases h
      obtain ⟨gs, hu, hg⟩ := under_struct hC hd
      have fits := ty_fits hC hd rfl
      have hplace : ∀ i x, structPlace C fs i = some x → (gs.map fun f => (f.offset, C.P.cellsOf f.type))[i]? = some x := by
        intro i x hx
        unfold structPlace at hx
        cases hfi : fs[i]? with
        | none => rw [hfi] at hx; cases hx
        | some p =>
          obtain ⟨off, ft⟩ := p
          rw [hfi] at hx
          rw [← hg, List.getElem?_map] at hfi
          cases hgi : gs.toList[i]? with
          | none => rw [hgi] at hfi; cases hfi
          | some g =>
            rw [hgi] at hfi
            simp only [Option.map_some, Option.some.injEq, Prod.mk.injEq] at hfi
            obtain ⟨rfl, rfl⟩ := hfi
            have hgi' : gs[i]? = some g := by simpa using hgi
            cases hd' : (C.ty g.type).d with
            | other => simp [hd'] at hx
            | _ =>
              simp only [hd', Option.some.injEq] at hx
              subst hx
              simp [hgi', cells_of hC hd' rfl]
      have hzero : VRL ι (C.ty t).zero (C.ty t).zero := .consts fits.const
      obtain ⟨r', e, hr⟩ := fill_sound hplace hp hzero hf
      refine ⟨.agg r'.toArray, hr.agg, fun w => ?_⟩
      obtain ⟨z, hz, hz2⟩ := zero_run hC hd rfl w
      have hz3 : z.cells = (C.ty t).zero.toArray := by rw [← hz2]
      have hk : ∀ g ∈ gs.toList, (C.P.info? g.type).isSome = true := fun g hg' => fits.fields fs hd (g.offset, g.type) (by rw [← hg]; exact List.mem_map.2 ⟨g, hg', rfl⟩)
      have hm := mapM_places (C := C) gs.toList hk w
      unfold Instr.build
      simp only [Sem.run_bind, hz, Result.andThen_ok, run_underlying hu, Array.mapM_eq_mapM_toList, Sem.run_map, hm, Result.andThen_ok, hz3]
      have e2 : (Instr.fill (fun x => (gs.toList.map fun f => (f.offset, C.P.cellsOf f.type)).toArray[x]?) (C.ty t).zero.toArray qs) = some r'.toArray := by
        rw [← e]
        congr 1
        funext x
        simp
      simp only [e2]
      simp
  · cases h
omit hC in
theorem intOp_sound {op : BinOp} {k : IntKind} {x y : Int} {v : Value} (hs : isShift op = false) (h : intOp op k x y = some v) :
    VR ι v v ∧ ∀ w, (binOp op 0 (.int k x) (.int k y)).run C.P w = .ok v w := by
  cases op <;> simp only [intOp, isShift] at h hs
  all_goals try (cases h; done)
  case quo =>
    split at h
    · cases h
    · cases h; exact ⟨.int _ _, fun w => by simp [binOp, Op.intDiv, *]⟩
  case rem =>
    split at h
    · cases h
    · cases h; exact ⟨.int _ _, fun w => by simp [binOp, Op.intDiv, *]⟩
  all_goals
    first
      | (cases h; exact ⟨.int _ _, fun w => by simp [binOp, Op.intArith, Op.intBits]⟩)
      | (cases h; exact ⟨.bool _, fun w => by simp [binOp, Op.intCmp]⟩)
      | cases hs
omit hC in
theorem shiftOp_sound {op : BinOp} {k k' : IntKind} {x y : Int} {v : Value} (h : shiftOp op k x y = some v) :
    VR ι v v ∧ ∀ w, (binOp op 0 (.int k x) (.int k' y)).run C.P w = .ok v w := by
  unfold shiftOp at h
  split at h
  · cases h
  · rename_i hy
    cases op <;> simp only at h
    all_goals try (cases h; done)
    all_goals (cases h; exact ⟨.int _ _, fun w => by simp [binOp, Op.shift, hy]⟩)
omit hC in
theorem strOp_sound {op : BinOp} {x y : ByteArray} {v : Value} (h : strOp op x y = some v) :
    VR ι v v ∧ ∀ w, (binOp op 0 (.string x) (.string y)).run C.P w = .ok v w := by
  unfold strOp at h
  cases op <;> simp only at h
  all_goals try (cases h; done)
  case add =>
    split at h
    · rename_i hs
      cases h
      refine ⟨.string _, fun w => ?_⟩
      simp [binOp, Op.stringOp]
      omega
    · cases h
  all_goals (cases h; exact ⟨.bool _, fun w => by simp [binOp, Op.stringOp]⟩)
end
end Go.Ab
namespace Go.Ab
section
variable {C : Cfg} {ι : Emb} {T : Tm} {a : Act}
theorem guard_int (op : BinOp) (t : Nat) (x y : Operand) (k k' : IntKind) (i j : Int) (w : World) : (eqGuard op t x y (.int k i) (.int k' j)).run C.P w = .ok () w := by
  unfold eqGuard
  cases op <;> simp
theorem guard_str (op : BinOp) (t : Nat) (x y : Operand) (i j : ByteArray) (w : World) : (eqGuard op t x y (.string i) (.string j)).run C.P w = .ok () w := by
  unfold eqGuard
  cases op <;> simp
def plainPair : Value → Value → Bool
  | .nilIface, .nilIface => false
  | .agg _, .agg _ => false
  | _, _ => true
theorem guard_plain (op : BinOp) (t : Nat) (x y : Operand) (u v : Value) (h : plainPair u v = true) (w : World) : (eqGuard op t x y u v).run C.P w = .ok () w := by
  unfold eqGuard
  cases op <;> simp only [Bool.not_true, Bool.not_false, Bool.false_eq_true, if_true, if_false, Sem.run_pure] <;>
    (cases u <;> cases v <;> first | (simp; done) | (simp [plainPair] at h))
variable (hC : CfgOK C)
include hC
omit hC in
theorem eq_bool {t : Nat} (hu : C.P.underlying t = some .bool) (p q : Bool) (w : World) : (Op.equal t (.bool p) (.bool q)).run C.P w = .ok (p == q) w := by
  unfold Op.equal; rw [show Op.maxDepth = 9999 + 1 from rfl]; unfold Op.equalIn; simp [run_underlying hu]
omit hC in
theorem eq_nil_slice {t e n c n' c' : Nat} (hu : C.P.underlying t = some (.slice e)) (p : Option Addr) (w : World) : (Op.equal t (.slice none n c) (.slice p n' c')).run C.P w = .ok p.isNone w := by
  unfold Op.equal; rw [show Op.maxDepth = 9999 + 1 from rfl]; unfold Op.equalIn; simp [run_underlying hu]
omit hC in
theorem eq_slice_nil {t e n c n' c' : Nat} (hu : C.P.underlying t = some (.slice e)) (p : Addr) (w : World) : (Op.equal t (.slice (some p) n c) (.slice none n' c')).run C.P w = .ok false w := by
  unfold Op.equal; rw [show Op.maxDepth = 9999 + 1 from rfl]; unfold Op.equalIn; simp [run_underlying hu]
omit hC in
theorem eq_nil_ptr {t e : Nat} (hu : C.P.underlying t = some (.pointer e)) (p : Option Addr) (w : World) : (Op.equal t (.pointer none) (.pointer p)).run C.P w = .ok p.isNone w := by
  unfold Op.equal; rw [show Op.maxDepth = 9999 + 1 from rfl]; unfold Op.equalIn; simp [run_underlying hu]
omit hC in
theorem eq_ptr_nil {t e : Nat} (hu : C.P.underlying t = some (.pointer e)) (p : Addr) (w : World) : (Op.equal t (.pointer (some p)) (.pointer none)).run C.P w = .ok false w := by
  unfold Op.equal; rw [show Op.maxDepth = 9999 + 1 from rfl]; unfold Op.equalIn; simp [run_underlying hu]
omit hC in
theorem eq_nil_nil_func {t : Nat} {p q : Array TypeId} {r : Bool} (hu : C.P.underlying t = some (.func p q r)) (w : World) : (Op.equal t .nilFunc .nilFunc).run C.P w = .ok true w := by
  unfold Op.equal; rw [show Op.maxDepth = 9999 + 1 from rfl]; unfold Op.equalIn; simp [run_underlying hu]
omit hC in
theorem eq_nil_func {t : Nat} {p q : Array TypeId} {r : Bool} (hu : C.P.underlying t = some (.func p q r)) (f : Fn) (x y : Array Value) (w : World) : (Op.equal t .nilFunc (.func f x y)).run C.P w = .ok false w := by
  unfold Op.equal; rw [show Op.maxDepth = 9999 + 1 from rfl]; unfold Op.equalIn; simp [run_underlying hu]
omit hC in
theorem eq_func_nil {t : Nat} {p q : Array TypeId} {r : Bool} (hu : C.P.underlying t = some (.func p q r)) (f : Fn) (x y : Array Value) (w : World) : (Op.equal t (.func f x y) .nilFunc).run C.P w = .ok false w := by
  unfold Op.equal; rw [show Op.maxDepth = 9999 + 1 from rfl]; unfold Op.equalIn; simp [run_underlying hu]
theorem eqv_sound {t : Nat} {x x' y y' : Value} {b : Bool} (hx : VR ι x x') (hy : VR ι y y') (h : eqv C t x y = some b) :
    (∀ op p q w, (eqGuard op t p q x' y').run C.P w = .ok () w) ∧ (∀ w, (Op.equal t x' y').run C.P w = .ok b w) ∧
    (∀ w, (binOp .eql t x' y').run C.P w = .ok (.bool b) w) ∧ (∀ w, (binOp .neq t x' y').run C.P w = .ok (.bool (!b)) w) := by
  have fin : ∀ (hp : plainPair x' y' = true) (hnb : ∀ w, (binOp .eql t x' y').run C.P w = ((Op.equal t x' y') >>= fun r => pure (Value.bool r) : Sem Value).run C.P w)
      (hnn : ∀ w, (binOp .neq t x' y').run C.P w = ((Op.equal t x' y') >>= fun r => pure (Value.bool (!r)) : Sem Value).run C.P w) (he : ∀ w, (Op.equal t x' y').run C.P w = .ok b w),
      (∀ op p q w, (eqGuard op t p q x' y').run C.P w = .ok () w) ∧ (∀ w, (Op.equal t x' y').run C.P w = .ok b w) ∧
      (∀ w, (binOp .eql t x' y').run C.P w = .ok (.bool b) w) ∧ (∀ w, (binOp .neq t x' y').run C.P w = .ok (.bool (!b)) w) := by
    intro hp hnb hnn he
    exact ⟨fun op p q w => guard_plain op t p q _ _ hp w, he, fun w => by rw [hnb]; simp [he], fun w => by rw [hnn]; simp [he]⟩
  unfold eqv at h
  split at h
  · rename_i hd
    split at h
    · cases h; cases hx; cases hy
      exact fin rfl (fun _ => rfl) (fun _ => rfl) (fun w => eq_bool (under_bool hC hd) _ _ w)
    · cases h
  · rename_i hd
    obtain ⟨e, hu⟩ := under_ptr hC hd
    split at h
    · cases h
      cases hx
      cases hy with
      | ptrNil => exact fin rfl (fun _ => rfl) (fun _ => rfl) (fun w => eq_nil_ptr hu _ w)
      | ptr n o l h1 => exact fin rfl (fun _ => rfl) (fun _ => rfl) (fun w => eq_nil_ptr hu _ w)
    · cases h
      cases hy
      cases hx with
      | ptrNil => rename_i hno; exact (hno rfl).elim
      | ptr n o l h1 => exact fin rfl (fun _ => rfl) (fun _ => rfl) (fun w => eq_ptr_nil hu _ w)
    · cases h
  · rename_i hd
    obtain ⟨p, q, r, hu⟩ := under_func hC hd
    split at h
    · cases h; cases hx; cases hy
      exact fin rfl (fun _ => rfl) (fun _ => rfl) (fun w => eq_nil_nil_func hu w)
    · cases h; cases hx; cases hy
      exact fin rfl (fun _ => rfl) (fun _ => rfl) (fun w => eq_nil_func hu _ _ _ w)
    · cases h; cases hx; cases hy
      exact fin rfl (fun _ => rfl) (fun _ => rfl) (fun w => eq_func_nil hu _ _ _ w)
    · cases h
  · rename_i fs hd
    split at h
    · rename_i xs ys
      split at h
      · rename_i hm
        have ground : ∀ (fs : List (Nat × Nat)) (xs ys xs' ys' : Array Value) (b : Bool), VRL ι xs.toList xs'.toList → VRL ι ys.toList ys'.toList → eqF C fs xs ys = some b → eqF C fs xs' ys' = some b := by
          intro fs
          induction fs with
          | nil => intro xs ys xs' ys' b _ _ h; exact h
          | cons p fs ih =>
            intro xs ys xs' ys' b g1 g2 h
            obtain ⟨off, ft⟩ := p
            simp only [eqF] at h ⊢
            split at h
            · rename_i k0 k a0 k' b0 hd0 e1 e2
              obtain ⟨u, hu, r⟩ := g1.get (i := off) (by simpa using e1)
              obtain ⟨v, hv, r'⟩ := g2.get (i := off) (by simpa using e2)
              cases r
              cases r'
              have hu' : xs'[off]? = some (.int k a0) := by simpa using hu
              have hv' : ys'[off]? = some (.int k' b0) := by simpa using hv
              simp only [hd0, hu', hv']
              split at h
              · rename_i hk
                rw [if_pos hk]
                cases hr : eqF C fs xs ys with
                | none => rw [hr] at h; cases h
                | some r0 =>
                  rw [hr] at h
                  rw [ih xs ys xs' ys' r0 g1 g2 hr]
                  exact h
              · cases h
            · cases h
        cases hx with
        | agg _ xs' h1 h2 =>
        cases hy with
        | agg _ ys' g1 g2 =>
        have hg := ground fs xs ys xs' ys' b (VR.arr h1 h2) (VR.arr g1 g2) h
        have key := fun w => hC.eqs t fs (by simpa using hm) hd xs' ys' b w hg
        refine ⟨fun op p q w => (key w).1 op p q, fun w => (key w).2, fun w => ?_, fun w => ?_⟩
        · show ((Op.equal t (.agg xs') (.agg ys')) >>= fun r => pure (Value.bool r) : Sem Value).run C.P w = _
          simp [(key w).2]
        · show ((Op.equal t (.agg xs') (.agg ys')) >>= fun r => pure (Value.bool (!r)) : Sem Value).run C.P w = _
          simp [(key w).2]
      · cases h
    · cases h
  · cases h
theorem bop_sound {op : BinOp} {t : Nat} {x x' y y' v : Value} (hx : VR ι x x') (hy : VR ι y y') (h : bop C op t x y = some v) :
    ∃ v', VR ι v v' ∧ (∀ p q w, (eqGuard op t p q x' y').run C.P w = .ok () w) ∧ ∀ w, (Go.binOp op t x' y').run C.P w = .ok v' w := by
  unfold bop at h
  split at h
  · cases hx
    cases hy
    rename_i k i k' j
    split at h
    · rename_i hs
      obtain ⟨r, hr⟩ := shiftOp_sound (C := C) (ι := ι) (k' := k') h
      refine ⟨v, r, fun p q w => guard_int .., fun w => ?_⟩
      rw [← hr w]
      cases op <;> simp [isShift] at hs <;> rfl
    · rename_i hs
      split at h
      · rename_i hk
        subst hk
        obtain ⟨r, hr⟩ := intOp_sound (C := C) (ι := ι) (by simpa using hs) h
        refine ⟨v, r, fun p q w => guard_int .., fun w => ?_⟩
        rw [← hr w]
        cases op <;> simp [isShift] at hs <;> rfl
      · cases h
  · cases hx
    cases hy
    rename_i i j
    obtain ⟨r, hr⟩ := strOp_sound (C := C) (ι := ι) h
    refine ⟨v, r, fun p q w => guard_str .., fun w => ?_⟩
    rw [← hr w]
    cases op <;> first | rfl | simp [strOp] at h
  · split at h
    · cases he : eqv C t x y with
      | none => rw [he] at h; cases h
      | some b =>
        rw [he] at h
        cases h
        obtain ⟨g1, _, g2, _⟩ := eqv_sound hC hx hy he
        exact ⟨_, .bool b, fun p q w => g1 _ _ _ _, g2⟩
    · cases he : eqv C t x y with
      | none => rw [he] at h; cases h
      | some b =>
        rw [he] at h
        cases h
        obtain ⟨g1, _, _, g2⟩ := eqv_sound hC hx hy he
        exact ⟨_, .bool (!b), fun p q w => g1 _ _ _ _, g2⟩
    · cases h
omit hC in
theorem uop_sound {op : UnOp} {x x' v : Value} (hx : VR ι x x') (h : uop op x = some v) : ∃ v', VR ι v v' ∧ ∀ w, (Op.unary op x').run C.P w = .ok v' w := by
  unfold uop at h
  split at h
  · cases hx; cases h; exact ⟨_, .bool _, fun w => by simp [Op.unary]⟩
  · cases hx; cases h; exact ⟨_, .int _ _, fun w => by simp [Op.unary, Op.intArith]⟩
  · cases h
theorem conv_sound {src dst : Nat} {x x' v : Value} (hx : VR ι x x') (h : convOf C src dst x = some v) : ∃ v', VR ι v v' ∧ ∀ w, (Go.convert src dst x').run C.P w = .ok v' w := by
  unfold convOf at h
  split at h
  · rename_i hs hd
    cases hx; cases h
    exact ⟨_, .int _ _, fun w => by simp [Go.convert, run_underlying (under_int hC hs), run_underlying (under_int hC hd), Conv.intToInt]⟩
  · rename_i hs hd
    cases hx; cases h
    exact ⟨_, .string _, fun w => by simp [Go.convert, run_underlying (under_str hC hs), run_underlying (under_str hC hd)]⟩
  · cases h
theorem len_sound {t : Nat} {x x' v : Value} {ats : Array TypeId} (hx : VR ι x x') (ht : ats[0]? = some t) (rest : List Value) (h : lenOf C t x = some v) (ty : TypeId) :
    ∃ v', VR ι v v' ∧ ∀ w, (Builtin.len_ ats ty (x' :: rest).toArray).run C.P w = .ok v' w := by
  unfold lenOf at h
  split at h
  · rename_i hd
    cases hx; cases h
    exact ⟨_, .int _ _, fun w => by simp [Builtin.len_, ht, run_underlying (under_str hC hd), goInt]⟩
  · rename_i hd
    cases h
    cases hx with
    | slNil => exact ⟨_, .int _ _, fun w => by simp [Builtin.len_, ht, run_underlying (under_slice hC hd), goInt]⟩
    | sl n o len acap l off ccap h1 h2 h3 h4 h5 => exact ⟨_, .int _ _, fun w => by simp [Builtin.len_, ht, run_underlying (under_slice hC hd), goInt]⟩
  · rename_i hd
    cases h
    cases hx with
    | ro _ _ g0 off0 ccap c0 hz hs hl hr hfl => exact ⟨_, .int _ _, fun w => by simp [Builtin.len_, ht, run_underlying (under_slice hC hd), goInt]⟩
    | ro0 a ccap ha => exact ⟨_, .int _ _, fun w => by simp [Builtin.len_, ht, run_underlying (under_slice hC hd), goInt]⟩
  · cases h
theorem cap_sound {t : Nat} {x x' v : Value} {ats : Array TypeId} (hx : VR ι x x') (ht : ats[0]? = some t) (rest : List Value) (h : capOf C t x = some v) (ty : TypeId) :
    ∃ v', VR ι v v' ∧ ∀ w, (Builtin.cap_ ats ty (x' :: rest).toArray).run C.P w = .ok v' w := by
  unfold capOf at h
  split at h
  · rename_i hd
    cases h
    cases hx
    exact ⟨_, .int _ _, fun w => by simp [Builtin.cap_, ht, run_underlying (under_slice hC hd), goInt]⟩
  · cases h
omit hC in
theorem minMax_sound (mx : Bool) : ∀ {xs ys : List Value} {x x' v : Value}, VR ι x x' → VRL ι xs ys → minMax mx x xs = some v →
    ∃ v', VR ι v v' ∧ ∀ w, (ys.foldlM (m := Sem) (if mx then Builtin.max2 else Builtin.min2) x').run C.P w = .ok v' w
  | [], ys, x, x', v, hx, hl, h => by
    rw [hl.cases_nil]
    unfold minMax at h
    split at h
    · cases h; cases hx; exact ⟨_, .int _ _, fun w => by simp⟩
    · rename_i he; cases he
    · cases h
  | y :: xs, ys, x, x', v, hx, hl, h => by
    obtain ⟨y', ys, rfl, hy, ht⟩ := hl.cases_cons
    unfold minMax at h
    split at h
    · rename_i he; cases he
    · rename_i k i k' j rest e
      cases e
      cases hx
      cases hy
      obtain ⟨v', r, hr⟩ := minMax_sound mx (.int k _) ht h
      refine ⟨v', r, fun w => ?_⟩
      rw [← hr w]
      cases mx <;> simp [List.foldlM_cons, Builtin.min2, Builtin.max2]
    · cases h
omit hC in
theorem boundIs {T : Tm} {a : Act} (hT : TR ι T a.tmps) (hG : GlobOK C ι) {x : Option Operand} {d n : Nat} (h : boundOf (x.map (ev C T)) d = some n) : BoundIs (x.map (ev C T)) (x.map a.eval) := by
  cases x with
  | none => exact .inl ⟨rfl, rfl⟩
  | some y =>
    simp only [Option.map_some] at h ⊢
    unfold boundOf at h
    split at h
    · rename_i e; cases e
    · rename_i k i e
      simp only [Option.some.injEq] at e
      have := ev_sound hT hG e
      generalize a.eval y = u at this
      cases this
      exact .inr ⟨_, _, by rw [e], rfl⟩
    · cases h
omit hC in
theorem sliceOf_bounds {es : Nat → Option Nat} {t : Nat} {x v : Value} {lo hi : Option (Option Value)} (h : sliceOf C es t x lo hi = some v) : (∃ d n, boundOf lo d = some n) ∧ (∃ d n, boundOf hi d = some n) := by
  unfold sliceOf at h
  split at h
  · split at h
    · exact ⟨⟨_, _, ‹_›⟩, ⟨_, _, ‹_›⟩⟩
    · cases h
  · split at h
    · cases h
    · unfold sliceIn at h
      split at h
      · exact ⟨⟨_, _, ‹_›⟩, ⟨_, _, ‹_›⟩⟩
      · cases h
  · split at h
    · cases h
    · unfold roPart at h
      split at h
      · exact ⟨⟨_, _, ‹_›⟩, ⟨_, _, ‹_›⟩⟩
      · cases h
  · cases h
omit hC in
theorem cutOf_bounds {t : Nat} {x v : Value} {lo hi mx : Option (Option Value)} (h : cutOf C t x lo hi mx = some v) : (∃ d n, boundOf lo d = some n) ∧ (∃ d n, boundOf hi d = some n) ∧ (∃ d n, boundOf mx d = some n) := by
  unfold cutOf at h
  split at h
  · exact ⟨⟨_, _, ‹_›⟩, ⟨_, _, ‹_›⟩, ⟨_, _, ‹_›⟩⟩
  · cases h
omit hC in
theorem isNilC_eq {y : Operand} (h : isNilC y = true) : y = .const (.slice none 0 0) := by
  unfold isNilC at h
  split at h
  · rfl
  · cases h
theorem nilOp_sound {op : BinOp} {t : Nat} {x x' v : Value} (hx : VR ι x x') (h : nilOp C op t x = some v) :
    ∃ v', VR ι v v' ∧ (∀ p q w, (eqGuard op t p q x' (.slice none 0 0)).run C.P w = .ok () w) ∧ ∀ w, (Go.binOp op t x' (.slice none 0 0)).run C.P w = .ok v' w := by
  unfold nilOp at h
  split at h
  · rename_i e hd
    have hu := under_slice hC hd
    have key : ∀ b, nilOf x = some b → ∃ a n c, x' = .slice a n c ∧ a.isNone = b := by
      intro b hb
      unfold nilOf at hb
      split at hb
      · cases hb
        cases hx with
        | sl n o len acap l off ccap h1 h2 h3 h4 h5 => exact ⟨_, _, _, rfl, rfl⟩
      · split at hb
        · cases hb
        · rename_i hn
          cases hb
          cases hx with
          | ro len cs g off ccap c h1 h2 h3 h4 h5 => exact ⟨_, _, _, rfl, rfl⟩
          | ro0 a ccap ha => exact (hn rfl).elim
      · cases hb
        cases hx with
        | sNil ccap => exact ⟨_, _, _, rfl, rfl⟩
      · cases hb
        cases hx with
        | sEmp a ccap => exact ⟨_, _, _, rfl, rfl⟩
      · cases hb
    have eqn : ∀ b, nilOf x = some b → ∃ a n c, x' = .slice a n c ∧ ∀ w, (Op.equal t (.slice a n c) (.slice none 0 0)).run C.P w = .ok b w := by
      intro b hb
      obtain ⟨a, n, c, rfl, hab⟩ := key b hb
      refine ⟨a, n, c, rfl, fun w => ?_⟩
      cases a with
      | none => rw [← hab]; exact eq_nil_slice hu none w
      | some p => rw [← hab]; exact eq_slice_nil hu p w
    split at h
    · obtain ⟨b, hb, e2⟩ := Option.map_eq_some_iff.mp h
      subst e2
      obtain ⟨a, n, c, rfl, he⟩ := eqn b hb
      refine ⟨.bool b, .bool b, fun p q w => guard_plain _ _ _ _ _ _ rfl w, fun w => ?_⟩
      show ((Op.equal t (.slice a n c) (.slice none 0 0)) >>= fun r => pure (Value.bool r) : Sem Value).run C.P w = _
      simp [he]
    · obtain ⟨b, hb, e2⟩ := Option.map_eq_some_iff.mp h
      subst e2
      obtain ⟨a, n, c, rfl, he⟩ := eqn b hb
      refine ⟨.bool (!b), .bool _, fun p q w => guard_plain _ _ _ _ _ _ rfl w, fun w => ?_⟩
      show ((Op.equal t (.slice a n c) (.slice none 0 0)) >>= fun r => pure (Value.bool (!r)) : Sem Value).run C.P w = _
      simp [he]
    · cases h
  · cases h
theorem pv_sound {es : Nat → Option Nat} (hT : TR ι T a.tmps) (hG : GlobOK C ι) (hes : EsOK ι es) {o : Oper} {v : Value} (h : pv C es T o = some v) :
    ∃ v', VR ι v v' ∧ ∀ w, (execOp a.eval o).run C.P w = .ok (.value v') w := by
  have S := fun {x : Operand} {v : Value} (h : ev C T x = some v) => ev_sound (a := a) hT hG h
  unfold pv at h
  split at h
  case h_1 x ho => exact ⟨_, S h, fun w => by simp [execOp, ho]⟩
  case h_2 x ho => exact ⟨_, S h, fun w => by simp [execOp, ho]⟩
  case h_3 c x y ho =>
    split at h
    · rename_i hc
      have := S hc
      generalize hce : a.eval c = u at this
      cases this
      exact ⟨_, S h, fun w => by simp [execOp, ho, hce, asBool]⟩
    · rename_i hc
      have := S hc
      generalize hce : a.eval c = u at this
      cases this
      exact ⟨_, S h, fun w => by simp [execOp, ho, hce, asBool]⟩
    · cases h
  case h_4 op t x y t' ho =>
    split at h
    · rename_i hn
      have hy := isNilC_eq hn
      split at h
      · rename_i u hx
        obtain ⟨r, h1, h2, h3⟩ := nilOp_sound hC (S hx) h
        have hye : a.eval y = .slice none 0 0 := by subst hy; rfl
        exact ⟨r, h1, fun w => by simp [execOp, ho, hye, h2 x y w, h3 w]⟩
      · cases h
    · split at h
      · rename_i u v' hx hy
        obtain ⟨r, h1, h2, h3⟩ := bop_sound hC (S hx) (S hy) h
        exact ⟨r, h1, fun w => by simp [execOp, ho, h2 x y w, h3 w]⟩
      · cases h
  case h_5 op t x ho =>
    split at h
    · rename_i u hx
      obtain ⟨r, h1, h2⟩ := uop_sound (C := C) (S hx) h
      exact ⟨r, h1, fun w => by simp [execOp, ho, h2 w]⟩
    · cases h
  case h_6 s d x ho =>
    split at h
    · rename_i u hx
      obtain ⟨r, h1, h2⟩ := conv_sound hC (S hx) h
      exact ⟨r, h1, fun w => by simp [execOp, ho, h2 w]⟩
    · cases h
  case h_7 x i ho =>
    split at h
    · rename_i vs hx
      have := S hx
      generalize hxe : a.eval x = u at this
      cases this with
      | tuple _ vs' g1 g2 =>
      obtain ⟨y, hy, r⟩ := (VR.arr g1 g2).get (i := i) (by simpa using h)
      have hy' : vs'[i]? = some y := by simpa using hy
      exact ⟨y, r, fun w => by simp [execOp, ho, hxe, Instr.extract, hy']⟩
    · cases h
  case h_8 t x f ho =>
    split at h
    · rename_i u hx
      obtain ⟨r, h1, h2⟩ := field_sound hC (S hx) h
      exact ⟨r, h1, fun w => by simp [execOp, ho, h2 w]⟩
    · cases h
  case h_9 t x f ho =>
    split at h
    · rename_i u hx
      obtain ⟨r, h1, h2⟩ := fieldAddr_sound hC (S hx) h
      exact ⟨r, h1, fun w => by simp [execOp, ho, h2 w]⟩
    · cases h
  case h_10 t x i ho =>
    split at h
    · rename_i u j hx hi
      obtain ⟨r, h1, h2⟩ := indexAddr_sound hC (S hx) (S hi) h
      exact ⟨r, h1, fun w => by simp [execOp, ho, h2 w]⟩
    · cases h
  case h_11 t x i ho =>
    split at h
    · rename_i u j hx hi
      obtain ⟨r, h1, h2⟩ := index_sound hC (S hx) (S hi) h
      exact ⟨r, h1, fun w => by simp [execOp, ho, h2 w]⟩
    · cases h
  case h_12 t x lo hi ho =>
    split at h
    · rename_i u hx
      obtain ⟨⟨_, _, b1⟩, ⟨_, _, b2⟩⟩ := sliceOf_bounds h
      obtain ⟨r, h1, h2⟩ := slice_sound hC hes (S hx) (boundIs hT hG b1) (boundIs hT hG b2) h
      exact ⟨r, h1, fun w => by simp [execOp, ho, h2 w]⟩
    · cases h
  case h_13 t x lo hi mx ho =>
    split at h
    · rename_i u hx
      obtain ⟨⟨_, _, b1⟩, ⟨_, _, b2⟩, ⟨_, _, b3⟩⟩ := cutOf_bounds h
      obtain ⟨r, h1, h2⟩ := cut_sound hC (S hx) (boundIs hT hG b1) (boundIs (x := some hi) hT hG b2) (boundIs (x := some mx) hT hG b3) (by simp) (by simp) h
      exact ⟨r, h1, fun w => by simp only [Option.map_some] at h2; simp [execOp, ho, h2 w]⟩
    · cases h
  case h_14 t parts ho =>
    split at h
    · rename_i ps hp
      obtain ⟨r, h1, h2⟩ := build_sound hC (evP_sound (a := a) hT hG hp) h
      refine ⟨r, h1, fun w => ?_⟩
      have e : (List.map (fun (x : Nat × Operand) => match x with | (i, x) => (i, a.eval x)) parts.toList).toArray = parts.map (fun (i, x) => (i, a.eval x)) := by
        apply Array.ext'
        simp
      rw [e] at h2
      simp only [execOp, ho, Sem.run_bind, h2 w, Result.andThen_ok, Sem.run_pure]
    · cases h
  case h_15 x ho =>
    split at h
    · rename_i p hx
      cases h
      have := S hx
      generalize hxe : a.eval x = u at this
      cases this with
      | ptr n o l hl => exact ⟨_, .ptr n o l hl, fun w => by simp [execOp, ho, hxe]⟩
    · rename_i p hx
      cases h
      have := S hx
      generalize hxe : a.eval x = u at this
      cases this with
      | rop _ g0 off0 c hz hs hr hfl => exact ⟨_, .rop _ g0 off0 c hz hs hr hfl, fun w => by simp [execOp, ho, hxe]⟩
    · cases h
  case h_16 fn first captured ho =>
    split at h
    · rename_i p q hp hq
      cases h
      have g1 := evL_sound (a := a) hT hG hp
      have g2 := evL_sound (a := a) hT hG hq
      have e1 : (List.map a.eval first.toList).toArray = first.map a.eval := by apply Array.ext'; simp
      have e2 : (List.map a.eval captured.toList).toArray = captured.map a.eval := by apply Array.ext'; simp
      have a1 := g1.arr
      have a2 := g2.arr
      rw [e1] at a1
      rw [e2] at a2
      exact ⟨_, .func fn _ _ _ _ a1.1 a1.2 a2.1 a2.2, fun w => by simp [execOp, ho, Instr.makeFunc]⟩
    · cases h
  case h_17 c ho =>
    have args : ∀ {xs : List Value}, evL C T c.args.toList = some xs → VRL ι xs (c.args.map a.eval).toList := fun h => by
      have := evL_sound (a := a) hT hG h
      simpa using this
    split at h
    · rename_i x xs hc hx
      have hr := args hx
      generalize hargs : (c.args.map a.eval).toList = ys at hr
      obtain ⟨y, ys', rfl, h1, h2⟩ := hr.cases_cons
      split at h
      · rename_i t ht
        obtain ⟨r, e1, e2⟩ := len_sound hC h1 ht ys' h o.type
        refine ⟨r, e1, fun w => ?_⟩
        have ha : c.args.map a.eval = (y :: ys').toArray := by rw [← hargs]
        simp [execOp, ho, resolve, hc, invoke, Go.builtin, ha, e2 w]
      · cases h
    · rename_i x xs hc hx
      have hr := args hx
      generalize hargs : (c.args.map a.eval).toList = ys at hr
      obtain ⟨y, ys', rfl, h1, h2⟩ := hr.cases_cons
      split at h
      · rename_i t ht
        obtain ⟨r, e1, e2⟩ := cap_sound hC h1 ht ys' h o.type
        refine ⟨r, e1, fun w => ?_⟩
        have ha : c.args.map a.eval = (y :: ys').toArray := by rw [← hargs]
        simp [execOp, ho, resolve, hc, invoke, Go.builtin, ha, e2 w]
      · cases h
    · rename_i x xs hc hx
      have hr := args hx
      generalize hargs : (c.args.map a.eval).toList = ys at hr
      obtain ⟨y, ys', rfl, h1, h2⟩ := hr.cases_cons
      obtain ⟨r, e1, e2⟩ := minMax_sound (C := C) false h1 h2 h
      refine ⟨r, e1, fun w => ?_⟩
      have ha : c.args.map a.eval = (y :: ys').toArray := by rw [← hargs]
      have e3 := e2 w
      simp only [Bool.false_eq_true, if_false] at e3
      simp [execOp, ho, resolve, hc, invoke, Go.builtin, ha, Builtin.min_, e3]
    · rename_i x xs hc hx
      have hr := args hx
      generalize hargs : (c.args.map a.eval).toList = ys at hr
      obtain ⟨y, ys', rfl, h1, h2⟩ := hr.cases_cons
      obtain ⟨r, e1, e2⟩ := minMax_sound (C := C) true h1 h2 h
      refine ⟨r, e1, fun w => ?_⟩
      have ha : c.args.map a.eval = (y :: ys').toArray := by rw [← hargs]
      have e3 := e2 w
      simp only [if_true] at e3
      simp [execOp, ho, resolve, hc, invoke, Go.builtin, ha, Builtin.max_, e3]
    · cases h
  case h_18 => cases h
end
end Go.Ab
namespace Go.Ab
section
variable {C : Cfg} {B : Nat} {ι : Emb} {T : Tm} {a : Act} {m : Mem} {w : World}
theorem rd_sound (R : Rep B ι m w) {n o k : Nat} {l : Loc} {cs : List Value} (hl : ι n = some l) (h : rd m n o k = some cs) :
    cs.length = k ∧ cs.all flat = true ∧ ∃ cs', VRL ι cs cs' ∧ ∀ (j : Nat) v, cs'[j]? = some v → w.cell? ⟨l.g, l.sh + o + j, none⟩ = some v := by
  unfold rd at h
  split at h
  · rename_i hk
    cases h
    exact ⟨by simp [hk], rfl, [], .nil, fun j v hj => by simp at hj⟩
  · split at h
    · rename_i b hb
      split at h
      · rename_i hc
        cases h
        have M := R.cells n l b hl hb hc.1
        obtain ⟨c, e, fz, m1, m2, m3, m4, m5⟩ := M.ex
        have hlen : ((b.cells.drop o).take k).length = k := by simp; omega
        refine ⟨hlen, List.all_eq_true.2 fun x hx => List.all_eq_true.1 M.flat x (List.mem_of_mem_drop (List.mem_of_mem_take hx)), ((c.toList.drop (l.sh + o)).take k), ?_, ?_⟩
        · refine ⟨by rw [hlen]; simp; omega, fun i x y hx hy => ?_⟩
          have hi : i < k := by have := (List.getElem?_eq_some_iff.1 hx).1; omega
          rw [List.getElem?_take, if_pos hi, List.getElem?_drop] at hx hy
          obtain ⟨y', h1, h2⟩ := m4 (o + i) x hx
          rw [show l.sh + o + i = l.sh + (o + i) by omega, Array.getElem?_toList, h1] at hy
          cases hy
          exact h2
        · intro j v hj
          rw [List.getElem?_take] at hj
          split at hj
          · rw [List.getElem?_drop, Array.getElem?_toList] at hj
            simp [World.cell?, m1, hj]
          · cases hj
      · cases h
    · cases h
theorem one_some {x : Option (List Value)} {v : Value} (h : one x = some v) : x = some [v] := by
  unfold one at h
  split at h
  · cases h; rfl
  · cases h
theorem loadCells_run {g o k : Nat} {cs : List Value} (hk : cs.length = k) (h : ∀ (j : Nat) v, cs[j]? = some v → w.cell? ⟨g, o + j, none⟩ = some v) :
    (loadCells ⟨g, o, none⟩ k).run C.P w = .ok cs.toArray w := by
  rw [← hk]
  exact run_loadCells_list w _ cs fun j v hj => by rw [Addr.add_lit]; exact h j v hj
theorem fz_cells (R : Rep B ι m w) {cs c : Array Value} {g off : Nat} (hz : ι.fz g = some c) (hs : cs.size = 0 ∨ off + cs.size ≤ c.size) (hr : ∀ (i : Nat) x y, cs[i]? = some x → c[off + i]? = some y → VR ι.bare x y) (k : Nat) (hk : k ≤ cs.size) :
    ∃ cs', VRL ι (cs.toList.take k) cs' ∧ cs'.length = k ∧ ∀ (j : Nat) v, cs'[j]? = some v → w.cell? ⟨g, off + j, none⟩ = some v := by
  obtain ⟨e, z, hh⟩ := R.frozen g c hz
  refine ⟨(c.toList.drop off).take k, ⟨by simp; omega, fun i x y hx hy => ?_⟩, by simp; omega, fun j v hj => ?_⟩
  · rw [List.getElem?_take] at hx hy
    split at hx
    · rename_i hi
      rw [if_pos hi, List.getElem?_drop] at hy
      exact (hr i x y (by simpa using hx) (by simpa using hy)).mono (Emb.bare_le ι)
    · cases hx
  · rw [List.getElem?_take] at hj
    split at hj
    · rw [List.getElem?_drop, Array.getElem?_toList] at hj
      simp [World.cell?, hh, hj]
    · cases hj
variable (hC : CfgOK C)
include hC
theorem loadVar_sound (R : Rep B ι m w) {t n o : Nat} {l : Loc} (hl : ι n = some l) :
    (∀ fs cs, (C.ty t).d = .struct fs → rd m n o (C.ty t).size = some cs → ∃ v', VR ι (.agg cs.toArray) v' ∧ (loadVar t ⟨l.g, l.sh + o, none⟩).run C.P w = .ok v' w) ∧
    (∀ d v, (C.ty t).d = d → isOther d = false → (aggD d) = false → rd m n o 1 = some [v] → ∃ v', VR ι v v' ∧ (loadVar t ⟨l.g, l.sh + o, none⟩).run C.P w = .ok v' w) := by
  constructor
  · intro fs cs hd h
    obtain ⟨h1, _, cs', h2, h3⟩ := rd_sound R hl h
    refine ⟨.agg cs'.toArray, h2.agg, ?_⟩
    unfold loadVar
    have hrun := loadCells_run (C := C) (g := l.g) (o := l.sh + o) (k := (C.ty t).size) (cs := cs') (w := w) (by rw [← h2.1]; exact h1) h3
    simp [isAgg_run hC hd rfl w, size_run hC hd rfl w, hrun, aggD]
  · intro d v hd ho hs h
    obtain ⟨h1, _, cs', h2, h3⟩ := rd_sound R hl h
    obtain ⟨y, ys, rfl, r, _⟩ := h2.cases_cons
    refine ⟨y, r, ?_⟩
    have hcell := h3 0 y (by simp)
    unfold loadVar
    simp only [Nat.add_zero] at hcell
    simp [isAgg_run hC hd ho w, hs, hcell]
theorem rvLoad_sound (R : Rep B ι m w) (hT : TR ι T a.tmps) (hG : GlobOK C ι) {o : Oper} {t : Nat} {x : Operand} (ho : o.op = .load t x) {n : Option Nat} {v : Value} (h : rv C m T o = some (n, v)) :
    ∃ v', VR ι v v' ∧ (execOp a.eval o).run C.P w = .ok (.value v') w := by
  unfold rv at h
  simp only [ho] at h
  split at h
  · rename_i p hp
    have hx := ev_sound hT hG hp
    generalize hxe : a.eval x = x' at hx
    cases hx with
    | ptr k off l hl =>
    obtain ⟨s1, s2⟩ := loadVar_sound hC (t := t) (o := off) R hl
    have fin : ∀ v', (loadVar t ⟨l.g, l.sh + off, none⟩).run C.P w = .ok v' w → (execOp a.eval o).run C.P w = .ok (.value v') w := by
      intro v' hv'
      simp [execOp, ho, hxe, Instr.loadAt, Instr.sureAddr, hv']
    have key : ∀ d, (C.ty t).d = d → isOther d = false → aggD d = false → ((one (rd m k off 1)).map fun v => (some k, v)) = some (n, v) → ∃ v', VR ι v v' ∧ (execOp a.eval o).run C.P w = .ok (.value v') w := by
      intro d hd h1 h2 hr
      cases hu : one (rd m k off 1) with
      | none => rw [hu] at hr; cases hr
      | some u =>
        rw [hu] at hr
        cases hr
        obtain ⟨v', r, hv'⟩ := s2 _ _ hd h1 h2 (one_some hu)
        exact ⟨v', r, fin v' hv'⟩
    cases hd : (C.ty t).d with
    | other => simp [hd] at h
    | struct fs =>
      simp only [hd] at h
      split at h
      · rename_i cs hr
        cases h
        obtain ⟨v', r, hv'⟩ := s1 fs cs hd hr
        exact ⟨v', r, fin v' hv'⟩
      · cases h
    | _ => exact key _ hd rfl rfl (by simpa [hd] using h)
  · rename_i cs hp
    have hx := ev_sound hT hG hp
    generalize hxe : a.eval x = x' at hx
    cases hx with
    | rop _ g0 off0 c hz hs hr hfl =>
    have fin : ∀ v', (loadVar t ⟨g0, off0, none⟩).run C.P w = .ok v' w → (execOp a.eval o).run C.P w = .ok (.value v') w := by
      intro v' hv'
      simp [execOp, ho, hxe, Instr.loadAt, Instr.sureAddr, hv']
    have key : ∀ d, (C.ty t).d = d → isOther d = false → aggD d = false → ((cs[0]?).map fun v => ((none : Option Nat), v)) = some (n, v) → ∃ v', VR ι v v' ∧ (execOp a.eval o).run C.P w = .ok (.value v') w := by
      intro d hd h1 h2 hr'
      cases hu : cs[0]? with
      | none => rw [hu] at hr'; cases hr'
      | some u =>
        rw [hu] at hr'
        cases hr'
        have h0 := (Array.getElem?_eq_some_iff.1 hu).1
        obtain ⟨cs', r, hl, hc⟩ := fz_cells R hz hs hr 1 (by omega)
        obtain ⟨y, hy, ry⟩ := r.get (i := 0) (x := v) (by rw [List.getElem?_take, if_pos (by omega)]; simpa using hu)
        refine ⟨y, ry, fin y ?_⟩
        have hcell := hc 0 y hy
        unfold loadVar
        simp only [Nat.add_zero] at hcell
        simp [isAgg_run hC hd h1 w, h2, hcell]
    cases hd : (C.ty t).d with
    | other => simp [hd] at h
    | struct fs =>
      simp only [hd] at h
      split at h
      · rename_i hsz
        cases h
        obtain ⟨cs', r, hl, hc⟩ := fz_cells R hz hs hr (C.ty t).size hsz
        have e : cs.extract 0 (C.ty t).size = (cs.toList.take (C.ty t).size).toArray := by apply Array.ext'; simp
        refine ⟨.agg cs'.toArray, by rw [e]; exact r.agg, fin _ ?_⟩
        unfold loadVar
        have hrun := loadCells_run (C := C) (g := g0) (o := off0) (k := (C.ty t).size) (cs := cs') (w := w) hl hc
        simp [isAgg_run hC hd rfl w, size_run hC hd rfl w, hrun, aggD]
      · cases h
    | _ => exact key _ hd rfl rfl (by simpa [hd] using h)
  · cases h
omit hC in
theorem bytes_of_ground {cs cs' : List Value} (h : VRL ι cs cs') {l : List UInt8} (hb : bytesOf cs = some l) : cs' = cs := by
  induction cs generalizing cs' l with
  | nil => exact h.cases_nil
  | cons x xs ih =>
    obtain ⟨y, ys, rfl, hx, ht⟩ := h.cases_cons
    cases x with
    | int k n =>
      cases hx
      cases k <;> simp only [bytesOf] at hb <;> try (cases hb; done)
      cases hb' : bytesOf xs with
      | none => rw [hb'] at hb; cases hb
      | some l' => rw [ih ht hb']
    | _ => simp [bytesOf] at hb
omit hC in
theorem bytesLoop_run (F : Value → ByteArray → Sem (ForInStep ByteArray)) (hF : ∀ n r, F (.int .u8 n) r = pure (ForInStep.yield (r.push (UInt8.ofNat n.toNat)))) (cs : List Value) : ∀ (s : ByteArray) (l : List UInt8), bytesOf cs = some l →
    (forIn (m := Sem) cs s F).run C.P w = .ok ⟨s.data ++ l.toArray⟩ w := by
  induction cs with
  | nil => intro s l h; simp only [bytesOf] at h; cases h; simp
  | cons x xs ih =>
    intro s l h
    cases x with
    | int k n =>
      cases k <;> simp only [bytesOf] at h <;> try (cases h; done)
      cases hb : bytesOf xs with
      | none => rw [hb] at h; cases h
      | some l' =>
        rw [hb] at h
        cases h
        simp only [List.forIn_cons, Sem.run_bind, hF, Sem.run_pure, Result.andThen_ok]
        have := ih (s.push (UInt8.ofNat n.toNat)) l' hb
        simp only [this]
        congr 2
        simp [ByteArray.push]
    | _ => simp [bytesOf] at h
end
end Go.Ab
namespace Go.Ab
section
variable {C : Cfg} {B : Nat} {ι : Emb} {T : Tm} {a : Act} {m : Mem} {w : World}
theorem flat_rep_length (z : List Value) (c : Nat) : ((List.replicate c z).flatten).length = c * z.length := by
  induction c with
  | zero => simp
  | succ c ih => rw [List.replicate_succ, List.flatten_cons, List.length_append, ih, Nat.succ_mul]; omega
theorem flat_rep_get (z : List Value) (c i : Nat) (hi : i < c * z.length) : ((List.replicate c z).flatten)[i]? = z[i % z.length]? := by
  induction c generalizing i with
  | zero => simp at hi
  | succ c ih =>
    rw [List.replicate_succ, List.flatten_cons]
    by_cases h : i < z.length
    · rw [List.getElem?_append_left h, Nat.mod_eq_of_lt h]
    · rw [List.getElem?_append_right (by omega), ih (i - z.length) (by rw [Nat.succ_mul] at hi; omega)]
      congr 1
      rw [Nat.mod_eq_sub_mod (by omega : i ≥ z.length)]
theorem range_rep (z : Array Value) (c : Nat) : ((Array.range (c * z.size)).map (fun i => z[i % z.size]!)) = ((List.replicate c z.toList).flatten).toArray := by
  apply Array.ext'
  apply List.ext_getElem?
  intro i
  by_cases h : i < c * z.size
  · have hz : 0 < z.size := by
      rcases Nat.eq_zero_or_pos z.size with e | e
      · rw [e] at h; simp at h
      · exact e
    have hm : i % z.size < z.size := Nat.mod_lt _ hz
    have := flat_rep_get z.toList c i (by simpa using h)
    simp only [Array.length_toList] at this
    rw [List.toList_toArray, this]
    simp [h, hm]
  · have := flat_rep_length z.toList c
    simp only [Array.length_toList] at this
    rw [List.getElem?_eq_none (by simp; omega), List.toList_toArray, List.getElem?_eq_none (by omega)]
theorem VRL.flat_rep {z : List Value} (h : ∀ v ∈ z, constOk v = true) (c : Nat) : VRL ι (List.replicate c z).flatten (List.replicate c z).flatten :=
  .consts fun x hx => by
    rw [List.mem_flatten] at hx
    obtain ⟨l, hl, hx⟩ := hx
    rw [List.mem_replicate] at hl
    exact h x (hl.2 ▸ hx)
theorem const_flat {l : List Value} (h : ∀ v ∈ l, constOk v = true) : l.all flat = true := by
  rw [List.all_eq_true]
  intro v hv
  have := h v hv
  revert this
  cases v <;> simp [constOk, flat]
theorem rep_flat {z : List Value} (h : z.all flat = true) (c : Nat) : (List.replicate c z).flatten.all flat = true := by
  rw [List.all_eq_true] at h ⊢
  intro y hy
  rw [List.mem_flatten] at hy
  obtain ⟨l', hl', hy⟩ := hy
  rw [List.mem_replicate] at hl'
  exact h y (hl'.2 ▸ hy)
theorem fill_flat {place : Nat → Option (Nat × Nat)} : ∀ {ps : List (Nat × Value)} {cs r : List Value}, cs.all flat = true → ps.all (fun p => p.2.cells.toList.all flat) = true → fillL place cs ps = some r → r.all flat = true
  | [], cs, r, hc, _, h => by simp only [fillL] at h; cases h; exact hc
  | (i, v) :: ps, cs, r, hc, hp, h => by
    rw [fillL_cons] at h
    simp only [List.all_cons, Bool.and_eq_true] at hp
    split at h
    · cases h
    · split at h
      · exact fill_flat (splice_flat hc hp.1) hp.2 h
      · cases h
structure Makes (C : Cfg) (ι : Emb) (name : Nat) (v : Value) (b : Blk) (x : Sem Next) (w : World) : Prop where
  ex : ∃ v' w' c e fz, x.run C.P w = .ok (.value v') w' ∧ w'.heap = w.heap.push (.cells c e fz) ∧ b.cells.length ≤ c.size ∧
    (∀ (i : Nat) u, b.cells[i]? = some u → ∃ u', c[i]? = some u' ∧ VR ι u u') ∧ (∀ i, i < c.size → ¬ (fz.1 ≤ i ∧ i < fz.2)) ∧
    w'.os = w.os ∧ w'.tape = w.tape ∧ w'.output = w.output ∧ b.live = true ∧ b.own = true ∧ b.cells.all flat = true ∧
    ∀ ι', ι' name = some ⟨w.heap.size, 0, c.size, b.es⟩ → VR ι' v v'
theorem cells_of_vrl {xs ys : List Value} (h : VRL ι xs ys) : ∀ (i : Nat) u, xs[i]? = some u → ∃ u', ys.toArray[i]? = some u' ∧ VR ι u u' := fun i u hu => by
  obtain ⟨y, h1, h2⟩ := h.get hu
  exact ⟨y, by simpa using h1, h2⟩
variable (hC : CfgOK C)
include hC
theorem makes_alloc {name t : Nat} {d : TD} (hd : (C.ty t).d = d) (ho : isOther d = false) (o : Oper) (hop : o.op = .alloc t) :
    Makes C ι name (.pointer (some ⟨name, 0, none⟩)) ⟨(C.ty t).zero, 0, true, true⟩ (execOp a.eval o) w := by
  obtain ⟨z, hz, hz2⟩ := zero_run hC hd ho w
  have fits := ty_fits hC hd ho
  refine ⟨.pointer (some ⟨w.heap.size, 0, none⟩), { w with heap := w.heap.push (.cells z.cells t) }, z.cells, t, (0, 0), ?_, rfl, ?_, ?_, ?_, rfl, rfl, rfl, rfl, rfl, ?fl, ?_⟩
  case fl => exact const_flat fits.const
  · simp [execOp, hop, Instr.alloc, hz, newVar, newRow]
  · simp only; rw [← hz2]; simp
  · simp only
    rw [← hz2]
    have hk : VRL ι z.cells.toList z.cells.toList := .consts (by rw [hz2]; exact fits.const)
    simpa using cells_of_vrl hk
  · intro i _ h
    omega
  · intro ι' h
    have := VR.ptr (ι := ι') name 0 _ h
    simpa using this
omit hC in
theorem makes_box {name : Nat} {t : Nat} {x : Operand} {v : Value} (hT : TR ι T a.tmps) (hG : GlobOK C ι) (hx : ev C T x = some v) (hfl : v.cells.toList.all flat = true) (o : Oper) (hop : o.op = .box t x) :
    Makes C ι name (.pointer (some ⟨name, 0, none⟩)) ⟨v.cells.toList, 0, true, true⟩ (execOp a.eval o) w := by
  have hr := (ev_sound hT hG hx).cells
  refine ⟨.pointer (some ⟨w.heap.size, 0, none⟩), { w with heap := w.heap.push (.cells (a.eval x).cells t) }, (a.eval x).cells, t, (0, 0), ?_, rfl, ?_, ?_, ?_, rfl, rfl, rfl, rfl, rfl, ?fl, ?_⟩
  case fl => exact hfl
  · simp [execOp, hop, Instr.box, newVar, newRow]
  · simp only; have := hr.1; simp at this ⊢; omega
  · simpa using cells_of_vrl hr
  · intro i _ h
    omega
  · intro ι' h
    have := VR.ptr (ι := ι') name 0 _ h
    simpa using this
theorem makes_buildSlice {name t e len : Nat} {parts : Array (Nat × Operand)} {ps : List (Nat × Value)} {cs : List Value} {d : TD} (ht : (C.ty t).d = .slice e) (hd : (C.ty e).d = d) (ho : isOther d = false)
    (hT : TR ι T a.tmps) (hG : GlobOK C ι) (hp : evP C T parts.toList = some ps) (hlen : len * (C.ty e).size ≤ 16777216) (hpf : ps.all (fun p => p.2.cells.toList.all flat) = true)
    (hf : fillL (fun i => some (i * (C.ty e).size, (C.ty e).size)) (List.replicate len (C.ty e).zero).flatten ps = some cs) (o : Oper) (hop : o.op = .buildSlice t len parts) :
    Makes C ι name (lit0V C name len) ⟨cs, (C.ty e).size, true, true⟩ (execOp a.eval o) w := by
  have fits := ty_fits hC hd ho
  obtain ⟨z, hz, hz2⟩ := zero_run hC hd ho w
  have hq := evP_sound hT hG hp
  obtain ⟨r, hr1, hr2⟩ := fill_sound (fun _ _ h => h) hq (VRL.flat_rep fits.const len) hf
  have hzs : z.cells.size = (C.ty e).size := by rw [← fits.len, ← hz2]; simp
  have hz3 : z.cells.toList = (C.ty e).zero := hz2
  have hrep : ((Array.range (len * (C.ty e).size)).map (fun i => z.cells[i % z.cells.size]!)) = ((List.replicate len (C.ty e).zero).flatten).toArray := by
    rw [← hzs, ← hz3]
    exact range_rep z.cells len
  have hcl : cs.length = len * (C.ty e).size := by
    have : ∀ (ps : List (Nat × Value)) (x y : List Value), fillL (fun i => some (i * (C.ty e).size, (C.ty e).size)) x ps = some y → y.length = x.length := by
      intro ps
      induction ps with
      | nil => intro x y h; simp only [fillL] at h; cases h; rfl
      | cons p ps ih =>
        intro x y h
        obtain ⟨i, v⟩ := p
        simp only [fillL_cons] at h
        split at h
        · rename_i hs
          rw [ih _ _ h, splice_length (by simp only [Array.length_toList]; omega)]
        · cases h
    rw [this _ _ _ hf, flat_rep_length, fits.len]
  refine ⟨.slice (some ⟨w.heap.size, 0, none⟩) len len, { w with heap := w.heap.push (.cells r.toArray e) }, r.toArray, e, (0, 0), ?_, rfl, ?_, ?_, ?_, rfl, rfl, rfl, rfl, rfl, ?fl, ?_⟩
  case fl => exact fill_flat (rep_flat (const_flat fits.const) len) hpf hf
  · have hparts : (parts.map fun (i, x) => (i, a.eval x)).toList = parts.toList.map fun (i, x) => (i, a.eval x) := by simp
    have hnot : ¬ (16777216 < len * (C.ty e).size) := by omega
    by_cases h0 : len * (C.ty e).size = 0
    · have hemp : (List.replicate len (C.ty e).zero).flatten = [] := by
        apply List.eq_nil_of_length_eq_zero
        rw [flat_rep_length, fits.len, h0]
      rw [hemp] at hr1
      have hr1' : Instr.fill (fun i => some (i * (C.ty e).size, (C.ty e).size)) #[] (parts.toList.map fun (i, x) => (i, a.eval x)) = some r.toArray := hr1
      simp only [execOp, hop, Instr.buildSlice, Sem.run_bind, run_underlying (under_slice hC ht), Result.andThen_ok, size_run hC hd ho w, Sem.run_ite, h0]
      have hr2' : Instr.fill (fun i => some (i * (C.ty e).size, (C.ty e).size)) #[] (parts.toList.map fun x => (x.1, a.eval x.2)) = some r.toArray := hr1'
      simp [show Array.range 0 = #[] from rfl, hr2', newRow]
    · have hr2' : Instr.fill (fun i => some (i * (C.ty e).size, (C.ty e).size)) ((List.replicate len (C.ty e).zero).flatten).toArray (parts.toList.map fun x => (x.1, a.eval x.2)) = some r.toArray := hr1
      simp only [execOp, hop, Instr.buildSlice, Sem.run_bind, run_underlying (under_slice hC ht), Result.andThen_ok, size_run hC hd ho w, Sem.run_ite]
      simp [hnot, h0, hz, hrep, hr2', newRow]
  · simp only; rw [hr2.1]; simp
  · exact cells_of_vrl hr2
  · intro i _ h
    omega
  · intro ι' h
    unfold lit0V
    cases hb : C.lit0 && Nat.beq len 0 with
    | true =>
      rw [Bool.and_eq_true] at hb
      have h0 : len = 0 := Nat.eq_of_beq_eq_true hb.2
      subst h0
      exact .slNil _ (plainA.any _)
    | false =>
      refine .sl name 0 len len _ 0 len h (Nat.le_refl _) (Nat.le_refl _) ?_ (.inr (by simp))
      simp only
      rw [Nat.zero_add, ← hcl, hr2.1]
      simp
theorem makes_makeSlice {name t e : Nat} {x y : Operand} {l c : Int} {d : TD} (ht : (C.ty t).d = .slice e) (hd : (C.ty e).d = d) (ho : isOther d = false)
    (hT : TR ι T a.tmps) (hG : GlobOK C ι) (hx : ev C T x = some (.int .i64 l)) (hy : ev C T y = some (.int .i64 c)) (h0 : 0 ≤ l) (hlc : l ≤ c) (hb : c * (C.ty e).bytes ≤ 281474976710656) (hc : c ≤ 281474976710656)
    (o : Oper) (hop : o.op = .makeSlice t x y) :
    Makes C ι name (.slice (some ⟨name, 0, none⟩) l.toNat c.toNat) ⟨(List.replicate c.toNat (C.ty e).zero).flatten, (C.ty e).size, true, true⟩ (execOp a.eval o) w := by
  have fits := ty_fits hC hd ho
  obtain ⟨z, hz, hz2⟩ := zero_run hC hd ho w
  obtain ⟨i, _, _, hi, _, hi2, _⟩ := info_run hC hd ho w
  have hzs : z.cells.size = (C.ty e).size := by rw [← fits.len, ← hz2]; simp
  have hz3 : z.cells.toList = (C.ty e).zero := hz2
  have hrep : ((Array.range (c.toNat * (C.ty e).size)).map (fun i => z.cells[i % z.cells.size]!)) = ((List.replicate c.toNat (C.ty e).zero).flatten).toArray := by
    rw [← hzs, ← hz3]
    exact range_rep z.cells c.toNat
  have ex : a.eval x = .int .i64 l := by have := ev_sound hT hG hx; generalize a.eval x = u at this; cases this; rfl
  have ey : a.eval y = .int .i64 c := by have := ev_sound hT hG hy; generalize a.eval y = u at this; cases this; rfl
  have wr1 : IntKind.i64.wrap l = l := IntWalk.i64_in _ (by omega)
  have wr2 : IntKind.i64.wrap c = c := IntWalk.i64_in _ (by omega)
  have hk : VRL ι (List.replicate c.toNat (C.ty e).zero).flatten (List.replicate c.toNat (C.ty e).zero).flatten := VRL.flat_rep fits.const c.toNat
  refine ⟨.slice (some ⟨w.heap.size, 0, none⟩) l.toNat c.toNat, { w with heap := w.heap.push (.cells ((List.replicate c.toNat (C.ty e).zero).flatten).toArray e) }, ((List.replicate c.toNat (C.ty e).zero).flatten).toArray, e, (0, 0), ?_, rfl, ?_, ?_, ?_, rfl, rfl, rfl, rfl, rfl, ?fl, ?_⟩
  case fl => exact rep_flat (const_flat fits.const) _
  · have hbc : ¬ (281474976710656 < (C.ty e).bytes * c) := by rw [Int.mul_comm]; omega
    have hc0 : ¬ (c < 0) := by omega
    have hl0 : ¬ (l < 0) := by omega
    have hcl : ¬ (c < l) := by omega
    by_cases hn : c.toNat * (C.ty e).size = 0
    · have hemp : (List.replicate c.toNat (C.ty e).zero).flatten = [] := by
        apply List.eq_nil_of_length_eq_zero
        rw [flat_rep_length, fits.len, hn]
      simp only [execOp, hop, Instr.makeSlice, Sem.run_bind, run_underlying (under_slice hC ht), Result.andThen_ok, ex, ey, asInt, asIntOf, Sem.run_pure, hi, hi2, wr1, wr2, hemp]
      simp [hbc, hc0, hl0, hcl, size_run hC hd ho w, hn, newRow, show Array.range 0 = #[] from rfl]
    · simp only [execOp, hop, Instr.makeSlice, Sem.run_bind, run_underlying (under_slice hC ht), Result.andThen_ok, ex, ey, asInt, asIntOf, Sem.run_pure, hi, hi2, wr1, wr2]
      simp [hbc, hc0, hl0, hcl, size_run hC hd ho w, hn, hz, hrep, newRow]
  · simp
  · exact cells_of_vrl hk
  · intro i _ h
    omega
  · intro ι' h
    refine .sl name 0 _ _ _ 0 c.toNat h (by omega) (Nat.le_refl _) ?_ (.inr (by simp))
    have := flat_rep_length (C.ty e).zero c.toNat
    simp only [List.size_toArray, Nat.zero_add]
    rw [this, fits.len]
    exact Nat.le_refl _
theorem makes_convert {name src dst e : Nat} {x : Operand} {s : ByteArray} (hs : (C.ty src).d = .str) (ht : (C.ty dst).d = .slice e) (he : (C.ty e).d = .int .u8)
    (hT : TR ι T a.tmps) (hG : GlobOK C ι) (hx : ev C T x = some (.string s)) (o : Oper) (hop : o.op = .convert src dst x) :
    Makes C ι name (.slice (some ⟨name, 0, none⟩) s.size s.size) ⟨ofBytes s, 1, true, true⟩ (execOp a.eval o) w := by
  have ex : a.eval x = .string s := by have := ev_sound hT hG hx; generalize a.eval x = u at this; cases this; rfl
  have hcap : s.size ≤ grownCap w s.size 0 e := by unfold grownCap; exact Nat.le_add_right _ _
  have hco : ∀ x ∈ ofBytes s, constOk x = true := fun x hx => by
    unfold ofBytes at hx
    rw [List.mem_map] at hx
    obtain ⟨b, _, rfl⟩ := hx
    rfl
  have hsz : (ofBytes s).length = s.size := by simp [ofBytes]
  generalize hc : ((ofBytes s).toArray ++ Array.replicate (grownCap w s.size 0 e - s.size) (.int .u8 0) : Array Value) = c
  have hcs : c.size = grownCap w s.size 0 e := by
    rw [← hc]
    simp [hsz]
    omega
  have hmap : (s.data.map fun b => (Value.int .u8 b.toNat)) = (ofBytes s).toArray := by
    apply Array.ext'
    simp [ofBytes]
  have hw : ∀ W : World, W.heap = w.heap.push (.cells c e) → (W.freeze ⟨w.heap.size, c.size, none⟩ 1).heap = w.heap.push (.cells c e (c.size, c.size + 1)) := by
    intro W hW
    unfold World.freeze
    simp only [Nat.one_ne_zero, if_false]
    rw [hW]
    apply Array.ext
    · simp
    · intro i h1 h2
      rw [Array.getElem_modify]
      split
      · rename_i hi
        subst hi
        simp
      · rename_i hi
        simp at h2
        have hlt : i < w.heap.size := by omega
        rw [Array.getElem_push_lt hlt, Array.getElem_push_lt hlt]
  refine ⟨.slice (some ⟨w.heap.size, 0, none⟩) s.size (grownCap w s.size 0 e), ((w.drew.alloc (.cells c e)).freeze ⟨w.heap.size, c.size, none⟩ 1), c, e, (c.size, c.size + 1), ?_, hw _ rfl, ?_, ?_, ?_, rfl, rfl, rfl, rfl, rfl, ?fl, ?_⟩
  case fl => exact const_flat hco
  · have hc' : (ofBytes s).toArray ++ Array.replicate ((Question.appendCap s.size 0 e).cut (w.tape w.drawn (Question.appendCap s.size 0 e)) - s.size) (.int .u8 0) = c := hc
    simp [execOp, hop, Go.convert, run_underlying (under_str hC hs), run_underlying (under_slice hC ht), run_underlying (under_int hC he), ex, Conv.stringToBytes, Question.forced, hmap, newRow, markStringish, World.shape?, grownCap]
    simp only [hc']
    have hge : ∀ h, (w.drew.alloc (Obj.cells c e)).heap[w.heap.size]'h = .cells c e := by
      intro h
      exact Array.getElem_push_eq (xs := w.heap)
    simp only [hge]
    simp
  · simp only; rw [hsz, hcs]; exact hcap
  · intro i u hu
    have hi := (List.getElem?_eq_some_iff.1 hu).1
    refine ⟨u, ?_, .const (hco u (List.mem_of_getElem? hu))⟩
    rw [← hc, Array.getElem?_append_left (by simpa using hi)]
    simpa using hu
  · intro i hi h
    simp only at h
    omega
  · intro ι' h
    refine .sl name 0 s.size s.size ⟨w.heap.size, 0, c.size, 1⟩ 0 _ h (Nat.le_refl _) hcap ?_ (.inr rfl)
    simp only [Nat.zero_add, Nat.mul_one]
    omega
end
end Go.Ab
namespace Go.Ab
section
variable {C : Cfg} {B : Nat} {ι : Emb} {T : Tm} {a : Act} {m : Mem} {w : World}
theorem flat_one (v : Value) : v.oneCell' = flat v := by cases v <;> rfl
theorem storeCells_free (P : Program) (g o : Nat) (t : TypeId) (fz : Nat × Nat) : ∀ (vs : List Value) (i : Nat) (cur : Array Value) (w : World), w.heap[g]? = some (.cells cur t fz) →
    (∀ k, k < cur.size → ¬ (fz.1 ≤ k ∧ k < fz.2)) → o + i + vs.length ≤ cur.size → (∀ v ∈ vs, v.oneCell' = true) →
    (storeCells ⟨g, o, none⟩ vs i).run P w = .ok () (w.setRow g (cur.toList.take (o + i) ++ vs ++ cur.toList.drop (o + i + vs.length)).toArray)
  | [], i, cur, w, hg, _, _, _ => by
    simp only [storeCells, List.append_nil, List.length_nil, Nat.add_zero, List.take_append_drop, Array.toArray_toList]
    rw [setRow_self w g cur t fz hg]
    rfl
  | v :: rest, i, cur, w, hg, hfz, hl, h1 => by
    have hi : o + i < cur.size := by simp at hl; omega
    have hadd : (⟨g, o, none⟩ : Addr).add i = ⟨g, o + i, none⟩ := by unfold Addr.add; split <;> simp_all
    have hcell : w.cell? ⟨g, o + i, none⟩ = some cur[o + i] := by simp [World.cell?, hg, hi]
    have hfro : w.frozen? ⟨g, o + i, none⟩ = false := by
      have := hfz (o + i) hi
      obtain ⟨lo, hi'⟩ := fz
      simp only [World.frozen?, hg, Bool.and_eq_false_iff, decide_eq_false_iff_not]
      simp only at this
      omega
    have hst : (store ((⟨g, o, none⟩ : Addr).add i) v).run P w = .ok () (w.setRow g (cur.setIfInBounds (o + i) v)) := by
      rw [hadd, run_store P w _ v _ (h1 v (by simp)), hcell]
      simp [hfro, setCell_eq_setRow w g (o + i) cur t fz v hg]
    have ih := storeCells_free P g o t fz rest (i + 1) (cur.setIfInBounds (o + i) v) (w.setRow g (cur.setIfInBounds (o + i) v)) (setRow_heap w g cur _ t _ hg) (by simpa using hfz) (by simp at hl ⊢; omega) (fun x hx => h1 x (by simp [hx]))
    simp only [storeCells, Sem.run_bind, hst, Result.andThen_ok, ih, setRow_setRow]
    congr 3
    have e := list_seg_step cur.toList (o + i) v rest (by simp at hl ⊢; omega)
    simpa [Array.toList_setIfInBounds, Nat.add_assoc] using e
theorem wr_sound (R : Rep B ι m w) {n o : Nat} {l : Loc} {vs vs' : List Value} {m' : Mem} (hl : ι n = some l) (hv : VRL ι vs vs') (hf : vs.all flat = true) (h : wr m n o vs = some m') :
    ∃ w', (storeCells ⟨l.g, l.sh + o, none⟩ vs' 0).run C.P w = .ok () w' ∧ After B ι m w ι m' w' := by
  unfold wr at h
  split at h
  · rename_i he
    subst he
    cases h
    rw [hv.cases_nil]
    exact ⟨w, rfl, After.refl R⟩
  · split at h
    · rename_i b hb
      split at h
      · rename_i hc
        obtain ⟨c1, c2, c3⟩ := hc
        cases h
        obtain ⟨c, e, fz, m1, m2, m3, m4, m5⟩ := (R.cells n l b hl hb c1).ex
        have hlen := hv.1
        have hst := storeCells_free C.P l.g (l.sh + o) e fz vs' 0 c w m1 (m5 c2) (by omega) (fun v hv' => by
          rw [flat_one]
          exact List.all_eq_true.1 (hv.all_flat hf) v hv')
        simp only [Nat.add_zero] at hst
        refine ⟨_, hst, ?_⟩
        have hsz : (c.toList.take (l.sh + o) ++ vs' ++ c.toList.drop (l.sh + o + vs'.length)).length = c.size := by simp; omega
        refine After.write R hb hl c1 c2 c3 hv hf m1 (setRow_heap w l.g c _ e fz m1) (fun g hg => setRow_other w l.g g _ hg) (by simp) (by simpa using hsz) ?_ rfl rfl rfl
        intro i
        have := splice_get (l := c.toList) (o := l.sh + o) (vs := vs') (by simp; omega) i
        unfold splice at this
        simpa using this
      · cases h
    · cases h
variable (hC : CfgOK C)
include hC
theorem store_sound (R : Rep B ι m w) {t : Nat} {p p' v v' : Value} {m' : Mem} (hp : VR ι p p') (hv : VR ι v v') (h : storeOf C m t p v = some m') :
    ∃ w', (Instr.storeAt t p' v').run C.P w = .ok () w' ∧ After B ι m w ι m' w' := by
  unfold storeOf at h
  split at h
  · cases h
  · rename_i ad hno
    cases hp with
    | ptr n o l hl =>
    split at h
    · rename_i hc
      have hd : ∃ d, (C.ty t).d = d ∧ isOther d = false := by
        refine ⟨_, rfl, ?_⟩
        cases hd : (C.ty t).d with
        | other => exact absurd hd (by simpa using hno)
        | _ => rfl
      obtain ⟨d, hd, ho⟩ := hd
      obtain ⟨w', h1, h2⟩ := wr_sound (C := C) R hl hv.cells hc.2 h
      have hsz : v'.cells.size = (C.ty t).size := by
        have := hv.cells.1
        simp only [Array.length_toList] at this
        omega
      refine ⟨w', ?_, h2⟩
      unfold Instr.storeAt storeVar
      simp [Instr.sureAddr, size_run hC hd ho w, hsz, h1]
    · cases h
  · cases h
theorem clear_sound (R : Rep B ι m w) {t : Nat} {x x' v : Value} {m' : Mem} {ats : Array TypeId} (hx : VR ι x x') (ht : ats[0]? = some t) (h : clearOf C m t x = some (v, m')) (ty : TypeId) :
    ∃ w', (Builtin.clear_ ats ty #[x']).run C.P w = .ok v w' ∧ VR ι v v ∧ After B ι m w ι m' w' := by
  have unit : VR ι (.tuple #[]) (.tuple #[]) := .tuple _ _ rfl (fun i x y h => by simp at h)
  unfold clearOf at h
  split at h
  · rename_i e p n cap hd
    have key : ∀ d, (C.ty e).d = d → isOther d = false → clearIn m (C.ty e).zero n p = some (v, m') → ∃ w', (Builtin.clear_ ats ty #[x']).run C.P w = .ok v w' ∧ VR ι v v ∧ After B ι m w ι m' w' := by
      intro d hd' ho q
      clear h
      unfold clearIn at q
      split at q
      · rename_i hn
        subst hn
        cases q
        refine ⟨w, ?_, unit, After.refl R⟩
        cases hx with
        | slNil a' _ => cases a' <;> simp [Builtin.clear_, ht, run_underlying (under_slice hC hd)]
        | sl n o len acap l off ccap h1 h2 h3 h4 h5 => simp [Builtin.clear_, ht, run_underlying (under_slice hC hd)]
      · rename_i hn
        cases hx with
        | slNil a' _ => exact absurd rfl hn
        | sl k o _ acap l off ccap h1 h2 h3 h4 h5 =>
        simp only at q
        cases hw : wr m k o (List.replicate n (C.ty e).zero).flatten with
        | none => rw [hw] at q; cases q
        | some m1 =>
          rw [hw] at q
          cases q
          have fits := ty_fits hC hd' ho
          have hz := VRL.flat_rep (ι := ι) fits.const n
          have hff : ((List.replicate n (C.ty e).zero).flatten).all flat = true := by
            rw [List.all_eq_true]
            intro y hy
            rw [List.mem_flatten] at hy
            obtain ⟨l', hl', hy⟩ := hy
            rw [List.mem_replicate] at hl'
            have := fits.const y (hl'.2 ▸ hy)
            revert this
            cases y <;> simp [constOk, flat]
          have hoff : off = l.sh + o := h5.resolve_left (by omega)
          subst hoff
          obtain ⟨w', e1, e2⟩ := wr_sound (C := C) R h1 hz hff hw
          refine ⟨w', ?_, unit, e2⟩
          obtain ⟨z, hz1, hz2⟩ := zero_run hC hd' ho w
          have hcl : (Builtin.zeroCells z.cells n).toList = (List.replicate n (C.ty e).zero).flatten := by
            unfold Builtin.zeroCells
            rw [range_rep, ← hz2]
          obtain ⟨n, rfl⟩ : ∃ k, n = k + 1 := ⟨n - 1, by omega⟩
          simp [Builtin.clear_, ht, run_underlying (under_slice hC hd), hz1, hcl, e1]
    cases hd' : (C.ty e).d with
    | other => simp [hd'] at h
    | _ => exact key _ hd' rfl (by simpa [hd'] using h)
  · cases h
omit hC in
theorem ofBytes_consts (s : ByteArray) : ∀ x ∈ ofBytes s, constOk x = true := fun x hx => by
  unfold ofBytes at hx
  rw [List.mem_map] at hx
  obtain ⟨b, _, rfl⟩ := hx
  rfl
omit hC in
theorem firstCells_str (s : ByteArray) (sz n : Nat) : (Builtin.firstCells sz n (.string s)).run C.P w = .ok ((ofBytes s).take n).toArray w := by
  simp only [Builtin.firstCells, Sem.run_pure]
  congr 1
  apply Array.ext'
  simp [ofBytes]
theorem copy_sound (R : Rep B ι m w) {t xt : Nat} {x x' y y' v : Value} {m' : Mem} {ats : Array TypeId} (hx : VR ι x x') (hy : VR ι y y') (ht : ats[0]? = some t) (h : copyOf C m t xt x y = some (v, m')) (ty : TypeId) :
    ∃ w', (Builtin.copy_ ats ty #[x', y']).run C.P w = .ok v w' ∧ VR ι v v ∧ After B ι m w ι m' w' := by
  unfold copyOf at h
  split at h
  · rename_i e p dl cap hd
    have sl : ∀ d, (C.ty e).d = d → isOther d = false → ∀ q n cap', VR ι (.slice q n cap') y' → copyIn m (C.ty e).size p dl q n = some (v, m') → ∃ w', (Builtin.copy_ ats ty #[x', y']).run C.P w = .ok v w' ∧ VR ι v v ∧ After B ι m w ι m' w' := by
      intro d hd' ho q n cap' hq r
      clear hy h
      cases hx with
      | slNil a1 _ =>
        cases q with
        | none =>
          cases hq with
          | slNil a2 _ =>
            simp only [copyIn] at r
            cases r
            exact ⟨w, by cases a1 <;> cases a2 <;> simp [Builtin.copy_, ht, run_underlying (under_slice hC hd), Builtin.lenOf, size_run hC hd' ho w, Builtin.firstCells, goInt, loadCells, loadCellsFrom, storeCells], .int _ _, After.refl R⟩
        | some q =>
          simp only [copyIn] at r
          split at r
          · rename_i hm
            cases r
            cases hq with
            | sl k o _ acap l off ccap h1 h2 h3 h4 h5 =>
            refine ⟨w, ?_, .int _ _, After.refl R⟩
            have : min n 0 = 0 := by omega
            cases a1 <;> simp [Builtin.copy_, ht, run_underlying (under_slice hC hd), Builtin.lenOf, size_run hC hd' ho w, Builtin.firstCells, goInt, loadCells, loadCellsFrom, storeCells]
          · cases r
      | sl pn po _ pacap pl poff pccap p1 p2 p3 p4 p5 =>
        cases q with
        | none =>
          simp only [copyIn] at r
          split at r
          · rename_i hm
            cases r
            cases hq with
            | slNil a2 _ =>
            refine ⟨w, ?_, .int _ _, After.refl R⟩
            cases a2 <;> simp [Builtin.copy_, ht, run_underlying (under_slice hC hd), Builtin.lenOf, size_run hC hd' ho w, Builtin.firstCells, goInt, storeCells, loadCells, loadCellsFrom]
          · cases r
        | some q =>
          cases hq with
          | sl k o _ acap l off ccap h1 h2 h3 h4 h5 =>
          simp only [copyIn] at r
          split at r
          · rename_i cs hr
            cases hw : wr m pn po cs with
            | none => rw [hw] at r; cases r
            | some m1 =>
              rw [hw] at r
              cases r
              obtain ⟨hcl, hfl, cs', hv, hcells⟩ := rd_sound R h1 hr
              by_cases h0 : min n dl = 0
              · have : cs = [] := by apply List.eq_nil_of_length_eq_zero; rw [hcl, h0, Nat.zero_mul]
                subst this
                simp only [wr, if_true] at hw
                cases hw
                refine ⟨w, ?_, .int _ _, After.refl R⟩
                have h0' : Nat.min n dl = 0 := h0
                simp [Builtin.copy_, ht, run_underlying (under_slice hC hd), Builtin.lenOf, size_run hC hd' ho w, Builtin.firstCells, goInt, h0', loadCells, loadCellsFrom, storeCells]
              · have e1 : off = l.sh + o := h5.resolve_left (by omega)
                have e2 : poff = pl.sh + po := p5.resolve_left (by omega)
                subst e1
                subst e2
                have hrun := loadCells_run (C := C) (g := l.g) (o := l.sh + o) (k := min n dl * (C.ty e).size) (cs := cs') (w := w) (by rw [← hv.1]; exact hcl) hcells
                obtain ⟨w', s1, s2⟩ := wr_sound (C := C) R p1 hv hfl hw
                refine ⟨w', ?_, .int _ _, s2⟩
                have hm : Nat.min n dl = min n dl := rfl
                simp [Builtin.copy_, ht, run_underlying (under_slice hC hd), Builtin.lenOf, size_run hC hd' ho w, Builtin.firstCells, goInt, hm, hrun, s1]
          · cases r
    have rs : ∀ d, (C.ty e).d = d → isOther d = false → ∀ (sl : Nat) cs, VR ι (.iface sl (.agg cs)) y' → copyRo m (C.ty e).size p dl sl cs.toList = some (v, m') → ∃ w', (Builtin.copy_ ats ty #[x', y']).run C.P w = .ok v w' ∧ VR ι v v ∧ After B ι m w ι m' w' := by
      intro d hd' ho n cs hq r
      clear hy h
      unfold copyRo at r
      split at r
      · rename_i q
        split at r
        · rename_i hcs
          cases hw : wr m q.block q.off (cs.toList.take (min n dl * (C.ty e).size)) with
          | none => rw [hw] at r; cases r
          | some m1 =>
            rw [hw] at r
            cases r
            cases hx with
            | sl pn po _ pacap pl poff pccap p1 p2 p3 p4 p5 =>
            have hm : Nat.min n dl = min n dl := rfl
            have nothing : min n dl = 0 → m' = m := fun h0 => by
              rw [h0] at hw
              simp only [Nat.zero_mul, List.take_zero, wr, if_true] at hw
              cases hw; rfl
            cases hq with
            | ro _ _ g0 off0 ccap c0 hz hs hl hr hfl =>
              by_cases h0 : min n dl = 0
              · cases nothing h0
                refine ⟨w, ?_, .int _ _, After.refl R⟩
                have h0' : Nat.min n dl = 0 := h0
                simp [Builtin.copy_, ht, run_underlying (under_slice hC hd), Builtin.lenOf, size_run hC hd' ho w, Builtin.firstCells, goInt, h0', loadCells, loadCellsFrom, storeCells]
              · have e2 : poff = pl.sh + po := p5.resolve_left (by omega)
                subst e2
                have hle : min n dl * (C.ty e).size ≤ cs.size := by
                  have h1 : cs.size = n * (C.ty e).size := by simpa using hcs
                  rw [h1]
                  exact Nat.mul_le_mul_right _ (Nat.min_le_left _ _)
                obtain ⟨cs', hv, hcl, hcells⟩ := fz_cells R hz hs hr _ hle
                have hrun := loadCells_run (C := C) (g := g0) (o := off0) (k := min n dl * (C.ty e).size) (cs := cs') (w := w) hcl hcells
                have hff : (cs.toList.take (min n dl * (C.ty e).size)).all flat = true := by
                  rw [List.all_eq_true] at hfl ⊢
                  exact fun x hx => hfl x (List.mem_of_mem_take hx)
                obtain ⟨w', s1, s2⟩ := wr_sound (C := C) R p1 hv hff hw
                refine ⟨w', ?_, .int _ _, s2⟩
                simp [Builtin.copy_, ht, run_underlying (under_slice hC hd), Builtin.lenOf, size_run hC hd' ho w, Builtin.firstCells, goInt, hm, hrun, s1]
            | ro0 a2 ccap ha =>
              cases nothing (by omega)
              refine ⟨w, ?_, .int _ _, After.refl R⟩
              cases a2 <;> simp [Builtin.copy_, ht, run_underlying (under_slice hC hd), Builtin.lenOf, size_run hC hd' ho w, Builtin.firstCells, goInt, loadCells, loadCellsFrom, storeCells]
        · cases r
      · cases r
    have st : ∀ d, (C.ty e).d = d → isOther d = false → ∀ s, y' = .string s → copyStr m (C.ty e).size p dl s = some (v, m') → ∃ w', (Builtin.copy_ ats ty #[x', y']).run C.P w = .ok v w' ∧ VR ι v v ∧ After B ι m w ι m' w' := by
      intro d hd' ho s hs r
      subst hs
      clear hy h
      unfold copyStr at r
      split at r
      · rename_i q
        split at r
        · rename_i hes
          cases hw : wr m q.block q.off ((ofBytes s).take (min s.size dl)) with
          | none => rw [hw] at r; cases r
          | some m1 =>
            rw [hw] at r
            cases r
            cases hx with
            | sl pn po _ pacap pl poff pccap p1 p2 p3 p4 p5 =>
            have hcs : ∀ x ∈ (ofBytes s).take (min s.size dl), constOk x = true := fun x hx => ofBytes_consts s x (List.mem_of_mem_take hx)
            have hf := firstCells_str (C := C) (w := w) s (C.ty e).size (min s.size dl)
            have hm : Nat.min s.size dl = min s.size dl := rfl
            by_cases h0 : min s.size dl = 0
            · rw [h0] at hw
              simp only [List.take_zero, wr, if_true] at hw
              cases hw
              refine ⟨w, ?_, .int _ _, After.refl R⟩
              rw [h0] at hf
              have h0' : Nat.min s.size dl = 0 := h0
              simp only [List.take_zero] at hf
              simp [Builtin.copy_, ht, run_underlying (under_slice hC hd), Builtin.lenOf, size_run hC hd' ho w, goInt, h0', hf, storeCells]
            · have e2 : poff = pl.sh + po := p5.resolve_left (by omega)
              subst e2
              obtain ⟨w', s1, s2⟩ := wr_sound (C := C) R p1 (.consts hcs) (const_flat hcs) hw
              refine ⟨w', ?_, .int _ _, s2⟩
              simp [Builtin.copy_, ht, run_underlying (under_slice hC hd), Builtin.lenOf, size_run hC hd' ho w, goInt, hm, hf, s1]
        · cases r
      · cases r
    have key : ∀ d, (C.ty e).d = d → isOther d = false → copyAny C m xt (C.ty e).size p dl y = some (v, m') → ∃ w', (Builtin.copy_ ats ty #[x', y']).run C.P w = .ok v w' ∧ VR ι v v ∧ After B ι m w ι m' w' := by
      intro d hd' ho r
      unfold copyAny at r
      split at r
      · exact sl d hd' ho _ _ _ hy r
      · exact rs d hd' ho _ _ hy r
      · rename_i s _
        have e : y' = .string s := by
          generalize y' = z at hy
          cases hy
          rfl
        exact st d hd' ho _ e r
      · cases r
    cases hd' : (C.ty e).d with
    | other => simp [hd'] at h
    | _ => exact key _ hd' rfl (by simpa [hd'] using h)
  · cases h
inductive NewIs (C : Cfg) (xt es : Nat) (e : TypeId) (x' : Value) (cs' : List Value) (k : Nat) (w : World) : Prop where
  | zeros (kd : IntKind) : C.P.underlying xt = some (.int kd) → x' = .int .i64 k → k ≤ 140737488355328 → cs' = (List.replicate k (C.ty e).zero).flatten → NewIs C xt es e x' cs' k w
  | cells (d : TypeDesc) : C.P.underlying xt = some d → (∀ kd, d ≠ .int kd) → (∀ w, (Builtin.lenOf x').run C.P w = .ok k w) →
      (∀ w2 : World, w2.heap = w.heap → (Builtin.firstCells es k x').run C.P w2 = .ok cs'.toArray w2) → NewIs C xt es e x' cs' k w
omit hC in
theorem cell?_heap {w w2 : World} (h : w2.heap = w.heap) (x : Addr) : w2.cell? x = w.cell? x := by simp [World.cell?, h]
theorem newCells_sound (R : Rep B ι m w) {xt e : Nat} {x x' : Value} {cs : List Value} {k : Nat} {d : TD} (hd : (C.ty e).d = d) (ho : isOther d = false) (hx : VR ι x x')
    (h : newCells C m xt (C.ty e).size (C.ty e).zero x = some (cs, k)) :
    ∃ cs', VRL ι cs cs' ∧ cs.length = k * (C.ty e).size ∧ cs.all flat = true ∧ NewIs C xt (C.ty e).size e x' cs' k w := by
  have fits := ty_fits hC hd ho
  unfold newCells at h
  split at h
  · rename_i kd n hx'
    cases hx
    split at h
    · rename_i hn
      cases h
      refine ⟨_, VRL.flat_rep fits.const _, by rw [flat_rep_length, fits.len], rep_flat (const_flat fits.const) _, .zeros kd (under_int hC hx') ?_ (by omega) rfl⟩
      congr 1
      omega
    · cases h
  · rename_i hx'
    cases h
    cases hx with
    | slNil a' _ =>
    refine ⟨[], .nil, by simp, rfl, .cells _ (under_slice hC hx') (fun _ h => by cases h) (fun w => by simp [Builtin.lenOf]) (fun w2 _ => by cases a' <;> simp [Builtin.firstCells, loadCells, loadCellsFrom])⟩
  · rename_i hx'
    cases h
    cases hx with
    | sEmp a' ccap =>
    refine ⟨[], .nil, by simp, rfl, .cells _ (under_slice hC hx') (fun _ h => by cases h) (fun w => by simp [Builtin.lenOf]) (fun w2 _ => by simp [Builtin.firstCells, loadCells, loadCellsFrom])⟩
  · rename_i p len cp hx'
    cases hx with
    | sl n o _ acap l off ccap h1 h2 h3 h4 h5 =>
    simp only at h
    cases hr : rd m n o (len * (C.ty e).size) with
    | none => rw [hr] at h; cases h
    | some cs0 =>
      rw [hr] at h
      cases h
      obtain ⟨hl, hfl, cs', hv, hc⟩ := rd_sound R h1 hr
      refine ⟨cs', hv, hl, hfl, .cells _ (under_slice hC hx') (fun _ h => by cases h) (fun w => by simp [Builtin.lenOf]) (fun w2 hw2 => ?_)⟩
      by_cases h0 : k = 0
      · subst h0
        have : cs' = [] := by apply List.eq_nil_of_length_eq_zero; rw [← hv.1, hl]; simp
        subst this
        simp [Builtin.firstCells, loadCells, loadCellsFrom]
      · have e1 : off = l.sh + o := h5.resolve_left (by omega)
        subst e1
        have := loadCells_run (C := C) (w := w2) (g := l.g) (o := l.sh + o) (k := k * (C.ty e).size) (cs := cs') (by rw [← hv.1]; exact hl) (fun j v hj => by rw [cell?_heap hw2]; exact hc j v hj)
        simp [Builtin.firstCells, this]
  · rename_i len cs0 hx'
    split at h
    · rename_i hsz
      cases h
      cases hx with
      | ro _ _ g0 off0 ccap c0 hz hs hl hr hfl =>
        obtain ⟨cs', hv, hcl, hcells⟩ := fz_cells R hz hs hr cs0.size (Nat.le_refl _)
        have ht : cs0.toList.take cs0.size = cs0.toList := by apply List.take_of_length_le; simp
        rw [ht] at hv
        refine ⟨cs', hv, by simpa using hsz, hfl, .cells _ (under_slice hC hx') (fun _ h => by cases h) (fun w => by simp [Builtin.lenOf]) (fun w2 hw2 => ?_)⟩
        have := loadCells_run (C := C) (w := w2) (g := g0) (o := off0) (k := cs0.size) (cs := cs') hcl (fun j v hj => by rw [cell?_heap hw2]; exact hcells j v hj)
        rw [hsz] at this
        simp [Builtin.firstCells, this]
      | ro0 a' ccap ha =>
        refine ⟨[], .nil, by simp, rfl, .cells _ (under_slice hC hx') (fun _ h => by cases h) (fun w => by simp [Builtin.lenOf]) (fun w2 _ => by cases a' <;> simp [Builtin.firstCells, loadCells, loadCellsFrom])⟩
    · cases h
  · rename_i s hx'
    cases hx
    split at h
    · rename_i hes
      cases h
      refine ⟨ofBytes s, .consts (ofBytes_consts s), ?_, const_flat (ofBytes_consts s), .cells _ (under_str hC hx') (fun _ h => by cases h) (fun w => by simp [Builtin.lenOf]) (fun w2 _ => ?_)⟩
      · rw [hes]; simp [ofBytes]
      · have := firstCells_str (C := C) (w := w2) s (C.ty e).size s.size
        rw [this]
        congr 2
        apply List.take_of_length_le
        simp [ofBytes]
    · cases h
  · cases h
theorem zeroCells_list {e : Nat} {d : TD} (hd : (C.ty e).d = d) (ho : isOther d = false) (w : World) :
    ∃ z, (zeroValue e).run C.P w = .ok z w ∧ z.cells.size = (C.ty e).size ∧ ∀ k, Builtin.zeroCells z.cells k = ((List.replicate k (C.ty e).zero).flatten).toArray := by
  obtain ⟨z, hz1, hz2⟩ := zero_run hC hd ho w
  have fits := ty_fits hC hd ho
  refine ⟨z, hz1, by rw [← fits.len, ← hz2]; simp, fun k => ?_⟩
  unfold Builtin.zeroCells
  rw [range_rep, hz2]
theorem append_room {t xt e k g off sLen sCap : Nat} {x' : Value} {cs' : List Value} {d : TD} {ats : Array TypeId} (ht : (C.ty t).d = .slice e) (hd : (C.ty e).d = d) (ho : isOther d = false)
    (h0 : ats[0]? = some t) (h1 : ats[1]? = some xt) (hN : NewIs C xt (C.ty e).size e x' cs' k w) (hroom : sLen + k ≤ sCap) (hb : k * (C.ty e).bytes ≤ 281474976710656)
    {c : Array Value} {ce : TypeId} {fz : Nat × Nat} (hc : w.heap[g]? = some (.cells c ce fz)) (hfz : ∀ i, i < c.size → ¬ (fz.1 ≤ i ∧ i < fz.2))
    (hfit : off + sLen * (C.ty e).size + cs'.length ≤ c.size) (hfl : cs'.all flat = true) (ty : TypeId) :
    (Builtin.append_ ats ty #[.slice (some ⟨g, off, none⟩) sLen sCap, x']).run C.P w =
      .ok (.slice (some ⟨g, off, none⟩) (sLen + k) sCap) (w.setRow g (c.toList.take (off + sLen * (C.ty e).size) ++ cs' ++ c.toList.drop (off + sLen * (C.ty e).size + cs'.length)).toArray) := by
  have hst := storeCells_free C.P g (off + sLen * (C.ty e).size) ce fz cs' 0 c w hc hfz (by omega) (fun v hv => by rw [flat_one]; exact List.all_eq_true.1 hfl v hv)
  simp only [Nat.add_zero] at hst
  obtain ⟨i, _, hi0, hi, hi1, hi2, _⟩ := info_run hC hd ho w
  cases hN with
  | zeros kd hu hx hk hcs =>
    subst hx
    have w1 : IntKind.i64.wrap (k : Int) = k := IntWalk.i64_in _ (by omega)
    have hb' : ¬ (281474976710656 < (k : Int) * (C.ty e).bytes) := by omega
    obtain ⟨z, hz1, hz2, hz5⟩ := zeroCells_list hC hd ho w
    have hz3 := hz5 k
    rw [← hcs] at hz3
    have hk0 : ¬ ((k : Int) < 0) := by omega
    by_cases hn : k * (C.ty e).size = 0
    · have : cs' = [] := by
        rw [hcs]
        apply List.eq_nil_of_length_eq_zero
        rw [flat_rep_length, (ty_fits hC hd ho).len, hn]
      subst this
      simp [Builtin.append_, h0, h1, run_underlying (under_slice hC ht), run_underlying hu, size_run hC hd ho w, asInt, asIntOf, w1, hk0, hi, hi2, hb', hroom, hn, storeCells, Addr.add_lit]
      exact (setRow_self w g c ce fz hc).symm
    · simp [Builtin.append_, h0, h1, run_underlying (under_slice hC ht), run_underlying hu, size_run hC hd ho w, asInt, asIntOf, w1, hk0, hi, hi2, hb', hroom, hn, hz1, hz3, Addr.add_lit, hst]
  | cells dd hu hno hlen hfc =>
    have hfc' := hfc w rfl
    simp [Builtin.append_, h0, h1, run_underlying (under_slice hC ht), run_underlying hu, size_run hC hd ho w, hlen, hroom, hfc', Addr.add_lit, hst]
theorem append_grow {t xt e k sLen sCap : Nat} {base : Option Addr} {x' : Value} {cs' olds : List Value} {d : TD} {ats : Array TypeId} (ht : (C.ty t).d = .slice e) (hd : (C.ty e).d = d) (ho : isOther d = false)
    (h0 : ats[0]? = some t) (h1 : ats[1]? = some xt) (hN : NewIs C xt (C.ty e).size e x' cs' k w) (hg : sCap < sLen + k) (hb : (sLen + k) * (C.ty e).bytes ≤ 140737488355328) (hk : sLen + k ≤ 140737488355328)
    (hold : ∀ w2 : World, w2.heap = w.heap → (Builtin.firstCells (C.ty e).size sLen (.slice base sLen sCap)).run C.P w2 = .ok olds.toArray w2) (hol : olds.length = sLen * (C.ty e).size) (hcl : cs'.length = k * (C.ty e).size) (ty : TypeId) :
    ∃ cap c, sLen + k ≤ cap ∧ (Builtin.append_ ats ty #[.slice base sLen sCap, x']).run C.P w = .ok (.slice (some ⟨w.heap.size, 0, none⟩) (sLen + k) cap) (w.drew.alloc (.cells c e)) ∧
      c.size = cap * (C.ty e).size ∧ (∀ (i : Nat) v, (olds ++ cs')[i]? = some v → c[i]? = some v) := by
  obtain ⟨i, _, hi0, hi, hi1, hi2, _⟩ := info_run hC hd ho w
  have hnr : ¬ (sLen + k ≤ sCap) := by omega
  have hfit := growslice_fits hg hb
  have h48 : ¬ (281474976710656 < Builtin.nextslicecap (sLen + k) sCap * (C.ty e).bytes) := by omega
  have h63 : ¬ (9223372036854775807 < ((sLen : Int) + (k : Int))) := by omega
  have hkb : k * (C.ty e).bytes ≤ 140737488355328 := Nat.le_trans (Nat.mul_le_mul_right _ (by omega)) hb
  have hcap : sLen + k ≤ grownCap w (sLen + k) sCap e := by unfold grownCap; exact Nat.le_add_right _ _
  obtain ⟨z, hz1, hz2, hz5⟩ := zeroCells_list hC hd ho w.drew
  have hz3 := hz5 (grownCap w (sLen + k) sCap e - (sLen + k))
  have hold' := hold w.drew rfl
  have hz4 := hz3
  unfold grownCap at hz4
  refine ⟨grownCap w (sLen + k) sCap e, (olds ++ cs').toArray ++ ((List.replicate (grownCap w (sLen + k) sCap e - (sLen + k)) (C.ty e).zero).flatten).toArray, hcap, ?_, ?_, ?_⟩
  · have hi' : (typeInfo e).run C.P w.drew = .ok i w.drew := by obtain ⟨i', _, a1, a2, _⟩ := info_run hC hd ho w.drew; rw [hi0] at a1; cases a1; exact a2
    cases hN with
    | zeros kd hu hx hk' hcs =>
      subst hx
      have w1 : IntKind.i64.wrap (k : Int) = k := IntWalk.i64_in _ (by omega)
      have hb' : ¬ (281474976710656 < (k : Int) * (C.ty e).bytes) := by omega
      have hk0 : ¬ ((k : Int) < 0) := by omega
      have hy3 := hz5 k
      rw [← hcs] at hy3
      by_cases hn : k * (C.ty e).size = 0
      · have : cs' = [] := List.eq_nil_of_length_eq_zero (by rw [hcl, hn])
        subst this
        simp [Builtin.append_, h0, h1, run_underlying (under_slice hC ht), run_underlying hu, size_run hC hd ho w, asInt, asIntOf, w1, hk0, hi, hi2, hb', hnr, hn, h63, h48, Question.forced, hold', hi', hz1, hz4, newRow, grownCap]
      · simp [Builtin.append_, h0, h1, run_underlying (under_slice hC ht), run_underlying hu, size_run hC hd ho w, asInt, asIntOf, w1, hk0, hi, hi2, hb', hnr, hn, h63, h48, Question.forced, hold', hi', hy3, hz1, hz4, newRow, grownCap]
    | cells dd hu hno hlen hfc =>
      have hfc' := hfc w.drew rfl
      simp [Builtin.append_, h0, h1, run_underlying (under_slice hC ht), run_underlying hu, size_run hC hd ho w, hlen, hnr, hi, hi2, h63, h48, Question.forced, hold', hi', hfc', hz1, hz4, newRow, grownCap]
  · simp only [Array.size_append, List.size_toArray, List.length_append, hol, hcl, flat_rep_length, (ty_fits hC hd ho).len]
    rw [← Nat.add_mul, ← Nat.add_mul]
    congr 1
    omega
  · intro i v hv
    have hi := (List.getElem?_eq_some_iff.1 hv).1
    rw [Array.getElem?_append_left (by simpa using hi)]
    simpa using hv
end
end Go.Ab
namespace Go.Ab
section
variable {C : Cfg} {B : Nat} {ι : Emb} {T : Tm} {a : Act} {m : Mem} {w : World}
variable (hC : CfgOK C)
include hC
theorem append_none {t xt e : Nat} {x' : Value} {cs' : List Value} {d : TD} {ats : Array TypeId} (ht : (C.ty t).d = .slice e) (hd : (C.ty e).d = d) (ho : isOther d = false)
    (h0 : ats[0]? = some t) (h1 : ats[1]? = some xt) (hN : NewIs C xt (C.ty e).size e x' cs' 0 w) (ty : TypeId) (a : Option Addr) (hcs0 : cs' = []) :
    (Builtin.append_ ats ty #[.slice a 0 0, x']).run C.P w = .ok (.slice a 0 0) w := by
  subst hcs0
  obtain ⟨i, _, hi0, hi, hi1, hi2, _⟩ := info_run hC hd ho w
  cases hN with
  | zeros kd hu hx hk hcs =>
    subst hx
    have w1 : IntKind.i64.wrap 0 = 0 := IntWalk.i64_in _ (by omega)
    cases a <;> simp [Builtin.append_, h0, h1, run_underlying (under_slice hC ht), run_underlying hu, size_run hC hd ho w, asInt, asIntOf, w1, hi, storeCells]
  | cells dd hu hno hlen hfc =>
    have hfc' := hfc w rfl
    cases a <;> simp [Builtin.append_, h0, h1, run_underlying (under_slice hC ht), run_underlying hu, size_run hC hd ho w, hlen, hfc', storeCells]
theorem append_sound (R : Rep B ι m w) (hB : B ≤ w.heap.size) (hfree : ι m.length = none) {t xt : Nat} {s s' x x' v : Value} {m' : Mem} {ats : Array TypeId} (h0 : ats[0]? = some t) (h1 : ats[1]? = some xt)
    (hs : VR ι s s') (hx : VR ι x x') (h : appendOf C m t xt s x = some (v, m')) (ty : TypeId) :
    ∃ v' w' ι', (Builtin.append_ ats ty #[s', x']).run C.P w = .ok v' w' ∧ After B ι m w ι' m' w' ∧ VR ι' v v' := by
  unfold appendOf at h
  split at h
  · rename_i e ht
    have key : ∀ d, (C.ty e).d = d → isOther d = false → ∀ cs k, newCells C m xt (C.ty e).size (C.ty e).zero x = some (cs, k) → appendIn m (C.ty e).size (C.ty e).bytes s cs k = some (v, m') →
        ∃ v' w' ι', (Builtin.append_ ats ty #[s', x']).run C.P w = .ok v' w' ∧ After B ι m w ι' m' w' ∧ VR ι' v v' := by
      intro d hd ho cs k hcs hap
      clear h
      have fits := ty_fits hC hd ho
      obtain ⟨cs', hv, hcl, hcf, hN⟩ := newCells_sound hC R hd ho hx hcs
      unfold appendIn at hap
      split at hap
      · cases hs with
        | slNil a' ha' =>
        split at hap
        · rename_i hk
          subst hk
          cases hap
          have hcs0 : cs' = [] := List.eq_nil_of_length_eq_zero (by rw [← hv.1, hcl, Nat.zero_mul])
          exact ⟨_, w, ι, append_none hC ht hd ho h0 h1 hN ty a' hcs0, After.refl R, .slNil a' ha'⟩
        · rename_i hk
          split at hap
          · rename_i hb
            cases hap
            obtain ⟨cap, c, g1, g2, g3, g4⟩ := append_grow hC (w := w) (base := a') (sLen := 0) (sCap := 0) (olds := []) ht hd ho h0 h1 hN (by omega) (by simpa using hb.1) (by simpa using hb.2) (fun w2 _ => by cases a' <;> simp [Builtin.firstCells, loadCells, loadCellsFrom]) (by simp) (by rw [← hv.1]; exact hcl) ty
            have hvc := cells_of_vrl hv
            rw [Nat.zero_add] at g1 g2
            refine ⟨_, _, _, g2, After.alloc (b := ⟨cs, (C.ty e).size, true, true⟩) (c := c) (e := e) (fz := (0, 0)) R hB rfl hfree hcf ?_ ?_ (fun i _ h => by omega) rfl rfl rfl rfl, ?_⟩
            · simp only
              rw [hcl, g3]
              exact Nat.mul_le_mul_right _ (by omega)
            · intro i u hu
              obtain ⟨u', e1, e2⟩ := hvc i u hu
              exact ⟨u', g4 i u' (by simpa using e1), e2⟩
            · refine VR.sl m.length 0 k k ⟨w.heap.size, 0, c.size, (C.ty e).size⟩ 0 cap (Emb.upd_same ..) (Nat.le_refl _) g1 ?_ (.inr rfl)
              simp only [Nat.zero_add]
              rw [g3]
              exact Nat.le_refl _
          · cases hap
      · rename_i s0 p len cp
        cases hs with
        | sl n o _ _ l off ccap s1 s2 s3 s4 s5 =>
        simp only at hap
        cases hb : m[n]? with
        | none => rw [hb] at hap; cases hap
        | some b =>
          rw [hb] at hap
          simp only at hap
          split at hap
          · rename_i hc
            obtain ⟨c1, c2, c3, c4, c5⟩ := hc
            split at hap
            · rename_i old hold
              cases hap
              have hes : l.es = (C.ty e).size := by rw [← R.es n l b s1 hb, c3]
              have M := R.cells n l b s1 hb c1
              obtain ⟨c, ce, fz, m1, m2, m3, m4, m5⟩ := M.ex
              obtain ⟨hol, hof, old', hov, hoc⟩ := rd_sound R s1 hold
              have hoff : len = 0 ∨ off = l.sh + o := by
                rcases s5 with h | h
                · left; omega
                · exact .inr h
              have hnb : (old ++ cs).all flat = true := by
                rw [List.all_append, hof, hcf]
                rfl
              have hnl : (old ++ cs).length = (len + k) * (C.ty e).size := by rw [List.length_append, hol, hcl, Nat.add_mul]
              have hfirst : ∀ w2 : World, w2.heap = w.heap → (Builtin.firstCells (C.ty e).size len (.slice (some ⟨l.g, off, none⟩) len ccap)).run C.P w2 = .ok old'.toArray w2 := by
                intro w2 hw2
                rcases hoff with h | h
                · subst h
                  have : old' = [] := List.eq_nil_of_length_eq_zero (by rw [← hov.1, hol]; simp)
                  subst this
                  simp [Builtin.firstCells, loadCells, loadCellsFrom]
                · subst h
                  have := loadCells_run (C := C) (w := w2) (g := l.g) (o := l.sh + o) (k := len * (C.ty e).size) (cs := old') (by rw [← hov.1]; exact hol) (fun j v hj => by rw [cell?_heap hw2]; exact hoc j v hj)
                  simp [Builtin.firstCells, this]
              by_cases hroom : len + k ≤ ccap
              · have hfitc : off + (len + k) * (C.ty e).size ≤ l.top := by
                  have := Nat.mul_le_mul_right (C.ty e).size hroom
                  rw [hes] at s4
                  omega
                rw [Nat.add_mul] at hfitc
                have hcl' : cs'.length = k * (C.ty e).size := by rw [← hv.1]; exact hcl
                have hrun := append_room hC (g := l.g) (off := off) (sLen := len) (sCap := ccap) ht hd ho h0 h1 hN hroom (by
                  have := Nat.mul_le_mul_right (C.ty e).bytes (show k ≤ len + k by omega)
                  omega) m1 (m5 c2) (by omega) (hv.all_flat hcf) ty
                have hlen2 : (c.toList.take (off + len * (C.ty e).size) ++ cs' ++ c.toList.drop (off + len * (C.ty e).size + cs'.length)).length = c.size := by simp; omega
                refine ⟨_, _, _, hrun, After.regrow (nb := ⟨old ++ cs, (C.ty e).size, true, true⟩) (off := off) R hb s1 c1 c2 hfree c3.symm rfl hnb m1 (setRow_heap w l.g c _ ce fz m1) (fun g hg => setRow_other w l.g g _ hg) (by simp) (by simpa using hlen2) ?_ ?_ rfl rfl rfl, ?_⟩
                · simp only
                  rw [hnl, Nat.add_mul]
                  omega
                · intro i u hu
                  have hsp := splice_get (l := c.toList) (o := off + len * (C.ty e).size) (vs := cs') (by simp; omega) (off + i)
                  unfold splice at hsp
                  simp only at hu
                  rw [List.getElem?_append] at hu
                  split at hu
                  · rename_i hi
                    rw [hol] at hi
                    rw [if_neg (by omega)] at hsp
                    have hlen0 : len ≠ 0 := by rintro rfl; simp at hi
                    have ho2 := hoff.resolve_left hlen0
                    obtain ⟨y, hy1, hy2⟩ := hov.get hu
                    have := hoc i y hy1
                    refine ⟨y, ?_, hy2⟩
                    simp only [World.cell?, m1] at this
                    rw [← ho2] at this
                    rw [List.getElem?_toArray, hsp]
                    simpa using this
                  · rename_i hi
                    rw [hol] at hi hu
                    obtain ⟨y, hy1, hy2⟩ := hv.get hu
                    have hb := (List.getElem?_eq_some_iff.1 hu).1
                    rw [if_pos (by omega)] at hsp
                    refine ⟨y, ?_, hy2⟩
                    have e1 : off + i - (off + len * (C.ty e).size) = i - len * (C.ty e).size := by omega
                    rw [e1, hy1] at hsp
                    simpa using hsp
                · exact VR.sl m.length 0 (len + k) (len + k) ⟨l.g, off, l.top, l.es⟩ off ccap (Emb.upd_same ..) (Nat.le_refl _) hroom s4 (.inr rfl)
              · obtain ⟨cap, c', g1, g2, g3, g4⟩ := append_grow hC (w := w) (base := some ⟨l.g, off, none⟩) (sLen := len) (sCap := ccap) (olds := old') ht hd ho h0 h1 hN (by omega) c4 c5 hfirst (by rw [← hov.1]; exact hol) (by rw [← hv.1]; exact hcl) ty
                have K := After.kill R hb s1
                have hvc := cells_of_vrl (hov.append hv)
                have hln : (m.set n { b with live := false }).length = m.length := by simp
                have A := After.alloc (b := ⟨old ++ cs, (C.ty e).size, true, true⟩) (c := c') (e := e) (fz := (0, 0)) (w' := w.drew.alloc (.cells c' e)) K.rep hB rfl (by rw [hln]; exact hfree) hnb (by
                    simp only
                    rw [hnl, g3]
                    exact Nat.mul_le_mul_right _ g1) (fun i u hu => by
                    obtain ⟨u', e1, e2⟩ := hvc i u hu
                    exact ⟨u', g4 i u' (by simpa using e1), e2⟩) (fun i _ h => by omega) rfl rfl rfl rfl
                have F := After.trans K A
                rw [hln] at F
                refine ⟨_, _, _, g2, F, ?_⟩
                refine VR.sl m.length 0 (len + k) (len + k) ⟨w.heap.size, 0, c'.size, (C.ty e).size⟩ 0 cap (Emb.upd_same ..) (Nat.le_refl _) g1 ?_ (.inr rfl)
                simp only [Nat.zero_add]
                rw [g3]
                exact Nat.le_refl _
            · cases hap
          · cases hap
      · cases hap
    cases hd : (C.ty e).d with
    | other => simp [hd] at h
    | _ =>
      simp only [hd] at h
      split at h
      · cases h
      · exact key _ hd rfl _ _ ‹_› h
  · cases h
omit hC in
theorem append_same {t xt : Nat} {s x v : Value} {m' : Mem} (h : appendOf C m t xt s x = some (v, m')) (hl : m'.length ≤ m.length) : m' = m := by
  unfold appendOf at h
  split at h
  · split at h
    · cases h
    · split at h
      · cases h
      · unfold appendIn at h
        split at h
        · split at h
          · cases h; rfl
          · split at h
            · cases h; simp at hl; omega
            · cases h
        · split at h
          · split at h
            · split at h
              · cases h; simp at hl; omega
              · cases h
            · cases h
          · cases h
        · cases h
  · cases h
theorem append_sound_same (R : Rep B ι m w) {t xt : Nat} {s s' x x' v : Value} {ats : Array TypeId} (h0 : ats[0]? = some t) (h1 : ats[1]? = some xt)
    (hs : VR ι s s') (hx : VR ι x x') (h : appendOf C m t xt s x = some (v, m)) (ty : TypeId) :
    ∃ v' w', (Builtin.append_ ats ty #[s', x']).run C.P w = .ok v' w' ∧ After B ι m w ι m w' ∧ VR ι v v' := by
  unfold appendOf at h
  split at h
  · rename_i e ht
    have key : ∀ d, (C.ty e).d = d → isOther d = false → ∀ cs k, newCells C m xt (C.ty e).size (C.ty e).zero x = some (cs, k) → appendIn m (C.ty e).size (C.ty e).bytes s cs k = some (v, m) →
        ∃ v' w', (Builtin.append_ ats ty #[s', x']).run C.P w = .ok v' w' ∧ After B ι m w ι m w' ∧ VR ι v v' := by
      intro d hd ho cs k hcs hap
      clear h
      obtain ⟨cs', hv, hcl, hcf, hN⟩ := newCells_sound hC R hd ho hx hcs
      unfold appendIn at hap
      split at hap
      · cases hs with
        | slNil a' ha' =>
        split at hap
        · rename_i hk
          subst hk
          simp only [Option.some.injEq, Prod.mk.injEq] at hap
          obtain ⟨rfl, _⟩ := hap
          have hcs0 : cs' = [] := List.eq_nil_of_length_eq_zero (by rw [← hv.1, hcl, Nat.zero_mul])
          exact ⟨_, w, append_none hC ht hd ho h0 h1 hN ty a' hcs0, After.refl R, .slNil a' ha'⟩
        · split at hap
          · simp at hap
          · cases hap
      · split at hap
        · split at hap
          · split at hap
            · simp only [Option.some.injEq, Prod.mk.injEq] at hap
              have := congrArg List.length hap.2
              simp at this
            · cases hap
          · cases hap
        · cases hap
      · cases hap
    cases hd : (C.ty e).d with
    | other => simp [hd] at h
    | _ =>
      simp only [hd] at h
      split at h
      · cases h
      · exact key _ hd rfl _ _ ‹_› h
  · cases h
end
end Go.Ab
namespace Go.Ab
section
variable {C : Cfg} {B : Nat} {ι : Emb} {T : Tm} {a : Act} {m : Mem} {w : World}
structure Grow (m m' : Mem) : Prop where
  len : m.length ≤ m'.length
  old : ∀ (k : Nat) b, m[k]? = some b → ∃ b', m'[k]? = some b' ∧ b'.es = b.es ∧ (b'.own = true → b.own = true) ∧ (b'.live = true → b.live = true)
theorem Grow.refl (m : Mem) : Grow m m := ⟨Nat.le_refl _, fun _ b h => ⟨b, h, rfl, id, id⟩⟩
theorem Grow.trans {m m1 m2 : Mem} (h : Grow m m1) (g : Grow m1 m2) : Grow m m2 :=
  ⟨Nat.le_trans h.len g.len, fun k b hb => by
    obtain ⟨b1, e1, e2, e3, e4⟩ := h.old k b hb
    obtain ⟨b2, f1, f2, f3, f4⟩ := g.old k b1 e1
    exact ⟨b2, f1, f2.trans e2, fun h => e3 (f3 h), fun h => e4 (f4 h)⟩⟩
theorem Grow.snoc (m : Mem) (b : Blk) : Grow m (m ++ [b]) :=
  ⟨by simp, fun k x hx => ⟨x, by rw [List.getElem?_append_left (List.getElem?_eq_some_iff.1 hx).1]; exact hx, rfl, id, id⟩⟩
theorem Grow.set {m : Mem} {n : Nat} {b b' : Blk} (hb : m[n]? = some b) (h1 : b'.es = b.es) (h2 : b'.own = true → b.own = true) (h3 : b'.live = true → b.live = true) : Grow m (m.set n b') :=
  ⟨by simp, fun k x hx => by
    by_cases e : n = k
    · subst e
      rw [hb] at hx
      cases hx
      exact ⟨b', by rw [List.getElem?_set_self (List.getElem?_eq_some_iff.1 hb).1], h1, h2, h3⟩
    · exact ⟨x, by rw [List.getElem?_set_ne e]; exact hx, rfl, id, id⟩⟩
def CallOK (C : Cfg) (call : CallF) : Prop := ∀ f args m v m', call f args m = some (v, m') →
  Grow m m' ∧
  (∃ fn, C.P.funcs[f]? = some fn ∧ (fn.name == "runtime.NumGoroutine") = false ∧ fn.body.isNone = false) ∧
  ∀ B ι w (args' : Array Value), Rep B ι m w → GlobOK C ι → B ≤ w.heap.size → VRL ι args args'.toList → Free ι m.length m'.length →
    Calls C.P f args' w fun e w' => ∃ v' ι', e = .returned v' ∧ After B ι m w ι' m' w' ∧ VR ι' v v'
theorem TR.put {ι : Emb} {T : Tm} {tmps : Array Value} (h : TR ι T tmps) {d : Nat} (hd : d < tmps.size) {v v' : Value} (r : VR ι v v') : TR ι ((d, v) :: T) (tmps.setIfInBounds d v') := by
  intro t u hu
  rw [List.lookup_cons] at hu
  by_cases e : t = d
  · subst e
    simp only [beq_self_eq_true] at hu
    cases hu
    exact ⟨v', by simp [hd], r⟩
  · have : (t == d) = false := by simpa using e
    rw [this] at hu
    obtain ⟨u', h1, h2⟩ := h t u hu
    exact ⟨u', by rw [Array.getElem?_setIfInBounds_ne (by omega)]; exact h1, h2⟩
theorem TR.putD {ι : Emb} {T : Tm} (h : TR ι T a.tmps) {N : Nat} (hN : N ≤ a.tmps.size) {d : Option Tmp} (hd : d.all (· < N) = true) {v v' : Value} (r : VR ι v v') : TR ι (putD T d v) (a.put d v').tmps := by
  cases d with
  | none => exact h
  | some d => exact h.put (by simp at hd; omega) r
theorem put_size (a : Act) (d : Option Tmp) (v : Value) : (a.put d v).tmps.size = a.tmps.size := by cases d <;> simp [Act.put]
theorem put_defers (a : Act) (d : Option Tmp) (v : Value) : (a.put d v).defers = a.defers := by cases d <;> rfl
theorem unit_VR {ι : Emb} : VR ι (.tuple #[]) undef := .tuple _ _ rfl (fun i x y h => by simp at h)
def OpGoes (C : Cfg) (B : Nat) (ι : Emb) (m : Mem) (w : World) (m' : Mem) (v : Value) (o : Oper) (a : Act) : Prop :=
  ∀ (K : Act → World → Prop) (Q : Exit → Act → World → Prop), (∀ v' ι' w', After B ι m w ι' m' w' → VR ι' v v' → K (a.put o.dst v') w') → o.wp C.P a w K Q
theorem OpGoes.value {v : Value} {o : Oper} {m' : Mem} {v' : Value} {ι' : Emb} {w' : World} (h : (execOp a.eval o).run C.P w = .ok (.value v') w') (A : After B ι m w ι' m' w') (r : VR ι' v v') : OpGoes C B ι m w m' v o a := by
  intro K Q hK
  unfold Oper.wp
  rw [h, Oper.upon_value]
  exact hK v' ι' w' A r
theorem OpGoes.skip {o : Oper} {m' : Mem} {ι' : Emb} {w' : World} (h : (execOp a.eval o).run C.P w = .ok .skip w') (A : After B ι m w ι' m' w') : OpGoes C B ι m w m' (.tuple #[]) o a := by
  intro K Q hK
  unfold Oper.wp
  rw [h, Oper.upon_skip]
  exact hK undef ι' w' A unit_VR
variable (hC : CfgOK C)
include hC
theorem pure_goes (R : Rep B ι m w) (hT : TR ι T a.tmps) (hG : GlobOK C ι) {o : Oper} {v : Value} (h : pv C (esOf m) T o = some v) : OpGoes C B ι m w m v o a := by
  have hes : EsOK ι (esOf m) := by
    intro n l e hl he
    unfold esOf at he
    cases hb : m[n]? with
    | none => rw [hb] at he; cases he
    | some b =>
      rw [hb] at he
      cases he
      exact (R.es n l b hl hb).symm
  obtain ⟨v', r, hr⟩ := pv_sound hC hT hG hes h
  exact .value (hr w) (After.refl R) r
theorem av_sound (hT : TR ι T a.tmps) (hG : GlobOK C ι) {o : Oper} {name : Nat} {v : Value} {b : Blk} (h : av C name T o = some (v, b)) (w : World) : Makes C ι name v b (execOp a.eval o) w := by
  unfold av at h
  split at h
  · rename_i t ho
    cases hd : (C.ty t).d with
    | other => simp [hd] at h
    | _ =>
      simp only [hd, Option.some.injEq, Prod.mk.injEq] at h
      obtain ⟨rfl, rfl⟩ := h
      exact makes_alloc hC hd rfl o ho
  · rename_i t x ho
    split at h
    · rename_i u hx
      split at h
      · cases h
        exact makes_box hT hG hx ‹_› o ho
      · cases h
    · cases h
  · rename_i t len parts ho
    split at h
    · rename_i e ps ht hp
      have key : ∀ d, (C.ty e).d = d → isOther d = false → (if len * (C.ty e).size ≤ 16777216 ∧ ps.all (fun p => p.2.cells.toList.all flat) = true then
          (fillL (fun i => some (i * (C.ty e).size, (C.ty e).size)) (List.replicate len (C.ty e).zero).flatten ps).map fun cs => (lit0V C name len, (⟨cs, (C.ty e).size, true, true⟩ : Blk))
        else none) = some (v, b) → Makes C ι name v b (execOp a.eval o) w := by
        intro d hd ho' q
        split at q
        · rename_i hc
          cases hf : fillL (fun i => some (i * (C.ty e).size, (C.ty e).size)) (List.replicate len (C.ty e).zero).flatten ps with
          | none => rw [hf] at q; cases q
          | some cs =>
            rw [hf] at q
            cases q
            exact makes_buildSlice hC ht hd ho' hT hG hp hc.1 hc.2 hf o ho
        · cases q
      cases hd : (C.ty e).d with
      | other => simp [hd] at h
      | _ => exact key _ hd rfl (by simpa [hd] using h)
    · cases h
  · rename_i t x y ho
    split at h
    · rename_i e l c ht hx hy
      have key : ∀ d, (C.ty e).d = d → isOther d = false → (if 0 ≤ l ∧ l ≤ c ∧ c * (C.ty e).bytes ≤ 281474976710656 ∧ c ≤ 281474976710656 then
          some (Value.slice (some ⟨name, 0, none⟩) l.toNat c.toNat, (⟨(List.replicate c.toNat (C.ty e).zero).flatten, (C.ty e).size, true, true⟩ : Blk))
        else none) = some (v, b) → Makes C ι name v b (execOp a.eval o) w := by
        intro d hd ho' q
        split at q
        · rename_i hc
          cases q
          exact makes_makeSlice hC ht hd ho' hT hG hx hy hc.1 hc.2.1 hc.2.2.1 hc.2.2.2 o ho
        · cases q
      cases hd : (C.ty e).d with
      | other => simp [hd] at h
      | _ => exact key _ hd rfl (by simpa [hd] using h)
    · cases h
  · rename_i src dst x ho
    split at h
    · rename_i e s hs ht hx
      split at h
      · rename_i he
        cases h
        exact makes_convert hC hs ht he hT hG hx o ho
      · cases h
    · cases h
  · cases h
theorem alloc_goes (R : Rep B ι m w) (hB : B ≤ w.heap.size) (hfree : ι m.length = none) (hT : TR ι T a.tmps) (hG : GlobOK C ι) {o : Oper} {v : Value} {b : Blk} (h : av C m.length T o = some (v, b)) :
    OpGoes C B ι m w (m ++ [b]) v o a := by
  obtain ⟨v', w', c, e, fz, h1, h2, h3, h4, h5, h6, h7, h8, h9, h10, h11, h12⟩ := (av_sound hC hT hG h w).ex
  exact .value h1 (After.alloc R hB h10 hfree h11 h3 h4 h5 h2 h6 h7 h8) (h12 _ (Emb.upd_same ..))
theorem rvConv_sound (R : Rep B ι m w) (hT : TR ι T a.tmps) (hG : GlobOK C ι) {o : Oper} {src dst : Nat} {x : Operand} (ho : o.op = .convert src dst x) {n : Option Nat} {v : Value} (h : rv C m T o = some (n, v)) :
    ∃ v', VR ι v v' ∧ (execOp a.eval o).run C.P w = .ok (.value v') w := by
  unfold rv at h
  simp only [ho] at h
  split at h
  · rename_i e p len cap hs hd hx
    split at h
    · rename_i he
      have hr := ev_sound (a := a) hT hG hx
      generalize hxe : a.eval x = x' at hr
      split at h
      · cases h
        cases hr with
        | slNil a' _ =>
        refine ⟨_, .string _, ?_⟩
        cases a' <;> simp [execOp, ho, hxe, Go.convert, run_underlying (under_slice hC hs), run_underlying (under_str hC hd), run_underlying (under_int hC he), Conv.bytesToString, loadCells, loadCellsFrom]
      · rename_i q
        split at h
        · rename_i cs hrd
          split at h
          · rename_i l hb
            cases h
            cases hr with
            | sl k off _ acap loc off' ccap h1 h2 h3 h4 h5 =>
            obtain ⟨hl, _, cs', hv, hc⟩ := rd_sound R h1 hrd
            have hg := bytes_of_ground hv hb
            subst hg
            refine ⟨_, .string _, ?_⟩
            have hload : (loadCells ⟨loc.g, off', none⟩ len).run C.P w = .ok cs'.toArray w := by
              by_cases h0 : len = 0
              · subst h0
                have : cs' = [] := List.eq_nil_of_length_eq_zero hl
                subst this
                simp [loadCells, loadCellsFrom]
              · have e1 : off' = loc.sh + off := h5.resolve_left (by omega)
                subst e1
                exact loadCells_run hl hc
            have hz : (ByteArray.empty.data ++ l.toArray) = l.toArray := by simp
            simp [execOp, ho, hxe, Go.convert, run_underlying (under_slice hC hs), run_underlying (under_str hC hd), run_underlying (under_int hC he), Conv.bytesToString, hload]
            rw [bytesLoop_run _ (fun _ _ => rfl) cs' ByteArray.empty l hb, hz]
            simp
          · cases h
        · cases h
    · cases h
  · rename_i e len cs hs hd hx
    split at h
    · rename_i he
      have hr := ev_sound (a := a) hT hG hx
      generalize hxe : a.eval x = x' at hr
      split at h
      · rename_i hsz
        split at h
        · rename_i l hb
          cases h
          have hz : (ByteArray.empty.data ++ l.toArray) = l.toArray := by simp
          cases hr with
          | ro _ _ g0 off0 ccap c0 hz0 hs0 hl hr0 hfl =>
            obtain ⟨cs', hv, hcl, hc⟩ := fz_cells R hz0 hs0 hr0 cs.size (Nat.le_refl _)
            have ht : cs.toList.take cs.size = cs.toList := by apply List.take_of_length_le; simp
            rw [ht] at hv
            have hg := bytes_of_ground hv hb
            have hload := loadCells_run (C := C) hcl hc
            rw [hsz] at hload
            rw [← hg] at hb
            refine ⟨_, .string _, ?_⟩
            simp [execOp, ho, hxe, Go.convert, run_underlying (under_slice hC hs), run_underlying (under_str hC hd), run_underlying (under_int hC he), Conv.bytesToString, hload]
            rw [bytesLoop_run _ (fun _ _ => rfl) cs' ByteArray.empty l hb, hz]
            simp
          | ro0 a' ccap ha =>
            simp only [bytesOf] at hb
            cases hb
            have hemp : (ByteArray.empty : ByteArray) = { data := #[] } := rfl
            refine ⟨_, .string _, ?_⟩
            cases a' <;> simp [execOp, ho, hxe, Go.convert, run_underlying (under_slice hC hs), run_underlying (under_str hC hd), run_underlying (under_int hC he), Conv.bytesToString, loadCells, loadCellsFrom, hemp]
        · cases h
      · cases h
    · cases h
  · cases h
theorem read_goes (R : Rep B ι m w) (hT : TR ι T a.tmps) (hG : GlobOK C ι) {o : Oper} {n : Option Nat} {v : Value} (h : rv C m T o = some (n, v)) :
    ∃ v', VR ι v v' ∧ (execOp a.eval o).run C.P w = .ok (.value v') w := by
  cases ho : o.op with
  | load t x => exact rvLoad_sound hC R hT hG ho h
  | convert src dst x => exact rvConv_sound hC R hT hG ho h
  | _ => simp [rv, ho] at h
theorem eff_goes {call : CallF} (hcall : CallOK C call) (R : Rep B ι m w) (hB : B ≤ w.heap.size) (hT : TR ι T a.tmps) (hG : GlobOK C ι) {o : Oper} {v : Value} {m' : Mem} (h : wv C call m T o = some (v, m'))
    (hF : Free ι m.length m'.length) : OpGoes C B ι m w m' v o a := by
  unfold wv at h
  split at h
  · rename_i t x y ho
    split at h
    · rename_i p u hp hu
      split at h
      · rename_i m1 hs
        cases h
        obtain ⟨w', h1, h2⟩ := store_sound hC R (ev_sound (a := a) hT hG hp) (ev_sound (a := a) hT hG hu) hs
        exact .skip (by simp [execOp, ho, h1]) h2
      · cases h
    · cases h
  · rename_i c ho
    have args : ∀ {xs : List Value}, evL C T c.args.toList = some xs → VRL ι xs (c.args.map a.eval).toList := fun h => by
      have := evL_sound (a := a) hT hG h
      simpa using this
    split at h
    · rename_i s x hc hx
      have hr := args hx
      generalize hargs : (c.args.map a.eval).toList = ys at hr
      obtain ⟨s', ys1, rfl, r1, h2⟩ := hr.cases_cons
      obtain ⟨x', ys2, rfl, r2, h3⟩ := h2.cases_cons
      cases h3.cases_nil
      have ha : c.args.map a.eval = #[s', x'] := by rw [← Array.toArray_toList (xs := c.args.map a.eval), hargs]
      split at h
      · rename_i t xt ht hxt
        have hfree : m' = m ∨ ι m.length = none := by
          rcases Nat.lt_or_ge m.length m'.length with hlt | hge
          · exact .inr (hF m.length (Nat.le_refl _) hlt)
          · left
            exact append_same h hge
        rcases hfree with rfl | hfree
        · obtain ⟨v', w', e1, e2, e3⟩ := append_sound_same hC R ht hxt r1 r2 h o.type
          exact .value (by simp [execOp, ho, resolve, hc, invoke, Go.builtin, ha, e1]) e2 e3
        · obtain ⟨v', w', ι', e1, e2, e3⟩ := append_sound hC R hB hfree ht hxt r1 r2 h o.type
          exact .value (by simp [execOp, ho, resolve, hc, invoke, Go.builtin, ha, e1]) e2 e3
      · cases h
    · rename_i d s hc hx
      have hr := args hx
      generalize hargs : (c.args.map a.eval).toList = ys at hr
      obtain ⟨s', ys1, rfl, r1, h2⟩ := hr.cases_cons
      obtain ⟨x', ys2, rfl, r2, h3⟩ := h2.cases_cons
      cases h3.cases_nil
      have ha : c.args.map a.eval = #[s', x'] := by rw [← Array.toArray_toList (xs := c.args.map a.eval), hargs]
      split at h
      · rename_i t xt ht hxt
        obtain ⟨w', e1, e2, e3⟩ := copy_sound hC R r1 r2 ht h o.type
        exact .value (by simp [execOp, ho, resolve, hc, invoke, Go.builtin, ha, e1]) e3 e2
      · cases h
    · rename_i x hc hx
      have hr := args hx
      generalize hargs : (c.args.map a.eval).toList = ys at hr
      obtain ⟨s', ys1, rfl, r1, h2⟩ := hr.cases_cons
      cases h2.cases_nil
      have ha : c.args.map a.eval = #[s'] := by rw [← Array.toArray_toList (xs := c.args.map a.eval), hargs]
      split at h
      · rename_i t ht
        obtain ⟨w', e1, e2, e3⟩ := clear_sound hC R r1 ht h o.type
        exact .value (by simp [execOp, ho, resolve, hc, invoke, Go.builtin, ha, e1]) e3 e2
      · cases h
    · rename_i f vs hc hx
      split at h
      · rename_i g first captured hf
        have hr := args hx
        have hfr := ev_sound (a := a) hT hG hf
        generalize hfe : a.eval f = f' at hfr
        cases hfr with
        | func _ _ first' _ captured' g1 g2 g3 g4 =>
        obtain ⟨_, ⟨fn, e1, e2, e3⟩, hgo⟩ := hcall _ _ _ _ _ h
        have hall : VRL ι (first.toList ++ vs ++ captured.toList) (first' ++ c.args.map a.eval ++ captured').toList := by
          simp only [Array.toList_append]
          exact ((VR.arr g1 g2).append hr).append (VR.arr g3 g4)
        have hcalls := hgo B ι w (first' ++ c.args.map a.eval ++ captured') R hG hB hall hF
        intro K Q hK
        unfold Oper.wp
        have hrun : (execOp a.eval o).run C.P w = .ok (.enter g (first' ++ c.args.map a.eval ++ captured')) w := by
          have e2' : ¬ fn.name = "runtime.NumGoroutine" := by simpa using e2
          have e3' : ¬ fn.body = none := by
            intro e
            rw [e] at e3
            cases e3
          simp [execOp, ho, resolve, hc, hfe, Deferred.ofValue, invoke, callFunc, e1, e2', e3']
        rw [hrun, Oper.upon_enter]
        refine hcalls.mono fun e w' he => ?_
        obtain ⟨v', ι', rfl, A, r⟩ := he
        exact hK v' ι' w' A r
      · cases h
    · cases h
  · cases h
omit hC in
theorem wr_grow {n o : Nat} {vs : List Value} {m' : Mem} (h : wr m n o vs = some m') : Grow m m' ∧ m'.length = m.length := by
  unfold wr at h
  split at h
  · cases h; exact ⟨.refl _, rfl⟩
  · split at h
    · rename_i b hb
      split at h
      · cases h; exact ⟨.set hb rfl id id, by simp⟩
      · cases h
    · cases h
omit hC in
theorem wrmap_grow {n o : Nat} {vs : List Value} {v0 v : Value} {m' : Mem} (h : (wr m n o vs).map (fun m' => (v0, m')) = some (v, m')) : Grow m m' := by
  cases hw : wr m n o vs with
  | none => rw [hw] at h; cases h
  | some m1 => rw [hw] at h; cases h; exact (wr_grow hw).1
omit hC in
theorem append_grows {t xt : Nat} {s x v : Value} {m' : Mem} (h : appendOf C m t xt s x = some (v, m')) : Grow m m' := by
  unfold appendOf at h
  split at h
  · split at h
    · cases h
    · split at h
      · cases h
      · unfold appendIn at h
        split at h
        · split at h
          · cases h; exact .refl _
          · split at h
            · cases h; exact .snoc _ _
            · cases h
        · split at h
          · rename_i b hb
            split at h
            · rename_i hc
              split at h
              · cases h
                exact (Grow.set (b' := { b with live := false }) hb rfl id (fun h => by cases h)).trans (.snoc _ _)
              · cases h
            · cases h
          · cases h
        · cases h
  · cases h
omit hC in
theorem copy_grows {t xt : Nat} {s x v : Value} {m' : Mem} (h : copyOf C m t xt s x = some (v, m')) : Grow m m' := by
  unfold copyOf at h
  split at h
  · split at h
    · cases h
    · unfold copyAny at h
      split at h
      · unfold copyIn at h
        split at h
        · split at h
          · exact wrmap_grow h
          · cases h
        · split at h
          · cases h; exact .refl _
          · cases h
      · unfold copyRo at h
        split at h
        · split at h
          · exact wrmap_grow h
          · cases h
        · cases h
      · unfold copyStr at h
        split at h
        · split at h
          · exact wrmap_grow h
          · cases h
        · cases h
      · cases h
  · cases h
omit hC in
theorem clear_grows {t : Nat} {x v : Value} {m' : Mem} (h : clearOf C m t x = some (v, m')) : Grow m m' := by
  unfold clearOf at h
  split at h
  · split at h
    · cases h
    · unfold clearIn at h
      split at h
      · cases h; exact .refl _
      · split at h
        · cases h
        · exact wrmap_grow h
  · cases h
omit hC in
theorem store_grows {t : Nat} {p x : Value} {m' : Mem} (h : storeOf C m t p x = some m') : Grow m m' := by
  unfold storeOf at h
  split at h
  · cases h
  · split at h
    · exact (wr_grow h).1
    · cases h
  · cases h
def CallGrow (call : CallF) : Prop := ∀ f args m v m', call f args m = some (v, m') → Grow m m'
omit hC in
theorem wv_grows {call : CallF} (hcall : CallGrow call) {o : Oper} {v : Value} {m' : Mem} (h : wv C call m T o = some (v, m')) : Grow m m' := by
  unfold wv at h
  split at h
  · split at h
    · split at h
      · cases h; exact store_grows ‹_›
      · cases h
    · cases h
  · split at h
    · split at h
      · exact append_grows h
      · cases h
    · split at h
      · exact copy_grows h
      · cases h
    · split at h
      · exact clear_grows h
      · cases h
    · split at h
      · exact hcall _ _ _ _ _ h
      · cases h
    · cases h
  · cases h
omit hC in
theorem aOp_grows {call : CallF} (hcall : CallGrow call) {o : Oper} {v : Value} {m' : Mem} {n : Option Nat} (h : aOp C call T m o = some (v, m', n)) : Grow m m' := by
  unfold aOp at h
  split at h
  · split at h
    · cases h; exact .refl _
    · cases h
  · split at h
    · cases h; exact .snoc _ _
    · cases h
  · split at h
    · cases h; exact .refl _
    · cases h
  · split at h
    · cases h; exact wv_grows hcall ‹_›
    · cases h
omit hC in
theorem aStep_grows {call : CallF} (hcall : CallGrow call) {ops : List Oper} {o : Oper} {T' : Tm} {m' : Mem} {n : Option Nat} (h : aStep C call ops T m o = some (T', m', n)) : Grow m m' := by
  unfold aStep at h
  split at h
  · cases h
  · cases h; exact .refl _
  · split at h
    · cases h; exact aOp_grows hcall ‹_›
    · cases h
omit hC in
theorem aOps_grows {call : CallF} (hcall : CallGrow call) {ops : List Oper} : ∀ {os : List Oper} {T : Tm} {m : Mem} {E : List Ev} {T' : Tm} {m' : Mem}, aOps C call ops os T m = some (E, T', m') → Grow m m'
  | [], T, m, E, T', m', h => by simp only [aOps] at h; cases h; exact .refl _
  | o :: os, T, m, E, T', m', h => by
    simp only [aOps] at h
    split at h
    · cases h
    · rename_i hs
      split at h
      · cases h
      · cases h
        exact (aStep_grows hcall hs).trans (aOps_grows hcall ‹_›)
end
end Go.Ab
namespace Go.Ab
section
variable {C : Cfg} {B : Nat} {ι : Emb} {T : Tm} {a : Act} {m : Mem} {w : World}
theorem wanted_sound {ops : List Oper} {o : Oper} {b : Bool} (h : wantedA ops T o = some b)
    (hT : ∀ t v, (∃ j w g, o.guard = some (j, w) ∧ ops[j]? = some g ∧ g.dst = some t) → T.lookup t = some v → ∃ v', a.tmps[t]? = some v' ∧ VR ι v v') :
    Region.wanted o (yielded ops.toArray a.tmps) = b := by
  unfold wantedA at h
  unfold Region.wanted
  cases hg : o.guard with
  | none => rw [hg] at h; cases h; rfl
  | some p =>
    obtain ⟨j, want⟩ := p
    rw [hg] at h
    simp only at h
    split at h
    · rename_i g hj
      split at h
      · rename_i t ht
        have Y : ∀ v, T.lookup t = some v → ∃ v', VR ι v v' ∧ yielded ops.toArray a.tmps j = (match v' with | .bool b => some b | _ => none) := by
          intro v hv
          obtain ⟨v', h1, h2⟩ := hT t v ⟨j, want, g, hg, hj, ht⟩ hv
          refine ⟨v', h2, ?_⟩
          unfold yielded
          simp [hj, ht, h1]
          cases v' <;> rfl
        split at h
        · rename_i b' hv
          cases h
          obtain ⟨v', r, e⟩ := Y _ hv
          cases r
          simp only
          rw [e]
          simp only
          cases b' <;> cases want <;> rfl
        · rename_i vs hv
          cases h
          obtain ⟨v', r, e⟩ := Y _ hv
          cases r
          simp only
          rw [e]
          rfl
        · cases h
      · cases h
    · cases h
def Behind (B : Nat) (ι : Emb) (m : Mem) (w : World) (a : Act) (T' : Tm) (m' : Mem) (a' : Act) (w' : World) : Prop :=
  ∃ ι', After B ι m w ι' m' w' ∧ TR ι' T' a'.tmps ∧ a'.defers = a.defers ∧ a'.tmps.size = a.tmps.size
variable (hC : CfgOK C)
include hC
theorem aOp_goes {call : CallF} (hcall : CallOK C call) (R : Rep B ι m w) (hB : B ≤ w.heap.size) (hT : TR ι T a.tmps) (hG : GlobOK C ι) {o : Oper} {v : Value} {m' : Mem} {n : Option Nat} (h : aOp C call T m o = some (v, m', n))
    (hF : Free ι m.length m'.length) : OpGoes C B ι m w m' v o a := by
  unfold aOp at h
  split at h
  · split at h
    · cases h; exact pure_goes hC R hT hG ‹_›
    · cases h
  · split at h
    · cases h
      exact alloc_goes hC R hB (hF _ (Nat.le_refl _) (by simp)) hT hG ‹_›
    · cases h
  · split at h
    · cases h
      obtain ⟨v', r, hr⟩ := read_goes hC R hT hG ‹_›
      exact .value hr (After.refl R) r
    · cases h
  · split at h
    · cases h
      exact eff_goes hC hcall R hB hT hG ‹_› hF
    · cases h
theorem step_goes {call : CallF} (hcall : CallOK C call) {ops : List Oper} {i : Nat} {o : Oper} (ho : ops[i]? = some o) (R : Rep B ι m w) (hB : B ≤ w.heap.size) (hT : TR ι T a.tmps) (hG : GlobOK C ι) {T' : Tm} {m' : Mem} {n : Option Nat}
    (h : aStep C call ops T m o = some (T', m', n)) (hF : Free ι m.length m'.length) {N : Nat} (hN : N ≤ a.tmps.size) (hd : o.dst.all (· < N) = true) (K : Act → World → Prop) (Q : Exit → Act → World → Prop)
    (hK : ∀ a' w', Behind B ι m w a T' m' a' w' → K a' w') : wpOp C.P ops.toArray Q i K a w := by
  have hi : ops.toArray[i]? = some o := by simpa using ho
  have hW := fun b (h : wantedA ops T o = some b) => wanted_sound (a := a) (ι := ι) h (fun t v _ hv => hT t v hv)
  unfold wpOp
  simp only [hi]
  unfold aStep at h
  split at h
  · cases h
  · rename_i hw
    cases h
    rw [hW _ hw]
    simp only [Bool.false_eq_true, if_false]
    exact hK _ _ ⟨ι, After.refl R, hT.putD hN hd unit_VR, put_defers .., put_size ..⟩
  · rename_i hw
    split at h
    · cases h
      rw [hW _ hw]
      simp only [if_true]
      left
      refine aOp_goes hC hcall R hB hT hG ‹_› hF K Q fun v' ι' w' A r => hK _ _ ⟨ι', A, ?_, put_defers .., put_size ..⟩
      exact (hT.mono (A.le hF)).putD hN hd r
    · cases h
omit hC in
theorem call_grow {call : CallF} (hcall : CallOK C call) : CallGrow call := fun f args m v m' h => (hcall f args m v m' h).1
theorem ops_go {call : CallF} (hcall : CallOK C call) {ops : List Oper} {N : Nat} (hd : ops.all (fun o => o.dst.all (· < N)) = true) : ∀ (os pre : List Oper) (T : Tm) (m : Mem) (ι : Emb) (a : Act) (w : World) (E : List Ev) (T2 : Tm) (m2 : Mem), ops = pre ++ os →
    aOps C call ops os T m = some (E, T2, m2) → Rep B ι m w → B ≤ w.heap.size → TR ι T a.tmps → GlobOK C ι → Free ι m.length m2.length → N ≤ a.tmps.size →
    ∀ Q : Exit → Act → World → Prop, (∀ a' w', Behind B ι m w a T2 m2 a' w' → Q .normal a' w') → wpOps C.P ops.toArray Q (List.range' pre.length os.length) a w := by
  intro os
  induction os with
  | nil =>
    intro pre T m ι a w E T2 m2 _ h R hB hT hG hF hN Q hQ
    simp only [aOps] at h
    cases h
    simp only [List.length_nil, List.range'_zero, wpOps]
    exact hQ _ _ ⟨ι, After.refl R, hT, rfl, rfl⟩
  | cons o os ih =>
    intro pre T m ι a w E T2 m2 he h R hB hT hG hF hN Q hQ
    simp only [aOps] at h
    split at h
    · cases h
    · rename_i T1 m1 n1 hs
      split at h
      · cases h
      · rename_i E2 T3 m3 hrest
        cases h
        have hoi : ops[pre.length]? = some o := by rw [he]; simp
        have g1 := aStep_grows (call_grow hcall) hs
        have g2 := aOps_grows (call_grow hcall) hrest
        have hdo : o.dst.all (· < N) = true := by
          rw [List.all_eq_true] at hd
          exact hd o (by rw [he]; simp)
        rw [List.length_cons, List.range'_succ, wpOps_cons]
        refine step_goes hC hcall hoi R hB hT hG hs (fun k h1 h2 => hF k h1 (Nat.lt_of_lt_of_le h2 g2.len)) hN hdo _ Q ?_
        rintro a' w' ⟨ι', A, hT', e1, e2⟩
        have hle := A.le (fun k h1 h2 => hF k h1 (Nat.lt_of_lt_of_le h2 g2.len))
        have := ih (pre ++ [o]) T1 m1 ι' a' w' E2 T2 m2 (by rw [he]; simp) hrest A.rep (Nat.le_trans hB A.size) hT' (hG.mono hle) (fun k h1 h2 => by
          rw [A.keep k (.inr h1)]
          exact hF k (Nat.le_trans g1.len h1) h2) (by rw [e2]; exact hN) Q (fun a2 w2 hb => by
          obtain ⟨ι2, A2, hT2, f1, f2⟩ := hb
          exact hQ a2 w2 ⟨ι2, A.trans A2, hT2, f1.trans e1, f2.trans e2⟩)
        simpa using this
omit hC in
theorem ev_congr {T T' : Tm} {x : Operand} (h : ∀ t, x = .tmp t → T.lookup t = T'.lookup t) : ev C T x = ev C T' x := by
  cases x with
  | tmp t => exact h t rfl
  | _ => rfl
omit hC in
theorem evL_congr {T T' : Tm} : ∀ {xs : List Operand}, (∀ x ∈ xs, ev C T x = ev C T' x) → evL C T xs = evL C T' xs
  | [], _ => rfl
  | x :: xs, h => by
    simp only [evL]
    rw [h x (by simp), evL_congr fun y hy => h y (by simp [hy])]
omit hC in
theorem evP_congr {T T' : Tm} : ∀ {xs : List (Nat × Operand)}, (∀ x ∈ xs.map (·.2), ev C T x = ev C T' x) → evP C T xs = evP C T' xs
  | [], _ => rfl
  | (i, x) :: xs, h => by
    simp only [evP]
    rw [h x (by simp), evP_congr fun y hy => h y (by simp at hy ⊢; exact .inr hy)]
omit hC in
theorem pv_congr {es : Nat → Option Nat} {T T' : Tm} {o : Oper} (h : ∀ x ∈ o.op.operands, ev C T x = ev C T' x) : pv C es T o = pv C es T' o := by
  unfold pv
  cases ho : o.op <;> rw [ho] at h <;> simp only [Op.operands] at h <;> (try dsimp only)
  case build t ps => rw [evP_congr (T := T) (T' := T') (xs := ps.toList) (fun x hx => h x (by simpa using hx))]
  case makeFunc fn first captured =>
    rw [evL_congr (T := T) (T' := T') (xs := first.toList) (fun x hx => h x (by simp at hx ⊢; exact .inl hx)), evL_congr (T := T) (T' := T') (xs := captured.toList) (fun x hx => h x (by simp at hx ⊢; exact .inr hx))]
  case call c => rw [evL_congr (T := T) (T' := T') (xs := c.args.toList) (fun x hx => h x (by simp [Call.operands] at hx ⊢; exact .inr hx))]
  case slice t x lo hi mx =>
    cases mx with
    | none =>
      have e1 : ev C T x = ev C T' x := h x (by simp)
      have e2 : lo.map (ev C T) = lo.map (ev C T') := by
        cases lo with
        | none => rfl
        | some y => simp only [Option.map_some]; rw [h y (by simp)]
      have e3 : hi.map (ev C T) = hi.map (ev C T') := by
        cases hi with
        | none => rfl
        | some y => simp only [Option.map_some]; rw [h y (by simp)]
      simp only [e1, e2, e3]
    | some mv =>
      cases hi with
      | none => rfl
      | some hv =>
        have e1 : ev C T x = ev C T' x := h x (by simp)
        have e2 : lo.map (ev C T) = lo.map (ev C T') := by
          cases lo with
          | none => rfl
          | some y => simp only [Option.map_some]; rw [h y (by simp)]
        have e3 : ev C T hv = ev C T' hv := h hv (by simp)
        have e4 : ev C T mv = ev C T' mv := h mv (by simp)
        simp only [e1, e2, e3, e4]
  case move x => exact h x (by simp)
  case assign x => exact h x (by simp)
  case pick c x y => rw [h c (by simp), h x (by simp), h y (by simp)]
  case binOp op t x y t' => rw [h x (by simp), h y (by simp)]
  case unOp op t x => rw [h x (by simp)]
  case convert s d x => rw [h x (by simp)]
  case extract x i => rw [h x (by simp)]
  case field t x f => rw [h x (by simp)]
  case fieldAddr t x f => rw [h x (by simp)]
  case indexAddr t x i => rw [h x (by simp), h i (by simp)]
  case index t x i => rw [h x (by simp), h i (by simp)]
  case nilCheck x => rw [h x (by simp)]
omit hC in
theorem av_congr {name : Nat} {T T' : Tm} {o : Oper} (h : ∀ x ∈ o.op.operands, ev C T x = ev C T' x) : av C name T o = av C name T' o := by
  unfold av
  cases ho : o.op <;> rw [ho] at h <;> simp only [Op.operands] at h <;> (try dsimp only)
  case buildSlice t n ps => rw [evP_congr (T := T) (T' := T') (xs := ps.toList) (fun x hx => h x (by simpa using hx))]
  case box t x => rw [h x (by simp)]
  case makeSlice t x y => rw [h x (by simp), h y (by simp)]
  case convert s d x => rw [h x (by simp)]
omit hC in
theorem rv_congr {T T' : Tm} {o : Oper} (h : ∀ x ∈ o.op.operands, ev C T x = ev C T' x) : rv C m T o = rv C m T' o := by
  unfold rv
  cases ho : o.op <;> rw [ho] at h <;> simp only [Op.operands] at h <;> (try dsimp only)
  case load t x => rw [h x (by simp)]
  case convert s d x => rw [h x (by simp)]
omit hC in
theorem wv_congr {call : CallF} {T T' : Tm} {o : Oper} (h : ∀ x ∈ o.op.operands, ev C T x = ev C T' x) : wv C call m T o = wv C call m T' o := by
  unfold wv
  cases ho : o.op <;> rw [ho] at h <;> simp only [Op.operands] at h <;> (try dsimp only)
  case store t x y => rw [h x (by simp), h y (by simp)]
  case call c =>
    rw [evL_congr (T := T) (T' := T') (xs := c.args.toList) (fun x hx => h x (by simp [Call.operands] at hx ⊢; exact .inr hx))]
    cases hc : c.callee with
    | value f =>
      have e := h f (by simp [Call.operands, hc])
      cases evL C T' c.args.toList with
      | none => rfl
      | some vs => simp only [e]
    | invoke r s =>
      cases evL C T' c.args.toList with
      | none => rfl
      | some vs => rfl
    | builtin b =>
      cases evL C T' c.args.toList with
      | none => cases b <;> rfl
      | some vs => rcases vs with _ | ⟨x, _ | ⟨y, _ | ⟨z, t⟩⟩⟩ <;> cases b <;> rfl
omit hC in
theorem rv_local {m m' : Mem} {o : Oper} {n : Option Nat} {v : Value} (h : rv C m T o = some (n, v)) (hm : ∀ k, n = some k → (m'[k]?).map (fun x => (x.cells, x.live)) = (m[k]?).map (fun x => (x.cells, x.live))) : rv C m' T o = some (n, v) := by
  have R : ∀ k o s, ((m'[k]?).map (fun x => (x.cells, x.live)) = (m[k]?).map (fun x => (x.cells, x.live))) → rd m' k o s = rd m k o s := fun k o s e => by
    unfold rd
    cases h1 : m'[k]? <;> cases h2 : m[k]? <;> rw [h1, h2] at e <;> simp only [Option.map_some, Option.map_none, Option.some.injEq, Prod.mk.injEq, reduceCtorEq] at e
    simp only [e.1, e.2]
  unfold rv at h ⊢
  split at h
  · rename_i t0 a0 ho
    split at h
    · rename_i p hp
      split at h
      · cases h
      · rename_i fs hd
        split at h
        · rename_i cs hr
          cases h
          rw [R _ _ _ (hm _ rfl), hr]
        · cases h
      · rename_i hno hns
        cases hr : one (rd m p.block p.off 1) with
        | none => rw [hr] at h; cases h
        | some u =>
          rw [hr] at h
          cases h
          have := R p.block p.off 1 (hm _ rfl)
          rw [← this] at hr
          cases hd : (C.ty _).d <;> first | exact absurd hd hno | exact absurd hd (hns _) | simp [hr]
    · exact h
    · cases h
  · rename_i s0 d0 a0 ho
    split at h
    · rename_i e p len cap hs hd hx
      split at h
      · rename_i he
        split at h
        · exact h
        · rename_i q
          split at h
          · rename_i cs hr
            split at h
            · rename_i l hb
              cases h
              simp only [R _ _ _ (hm _ rfl), hr, hb]
            · cases h
          · cases h
      · cases h
    · exact h
    · cases h
  · cases h
end
end Go.Ab
namespace Go.Ab
theorem testBit_fold (acc : List Nat) (i : Nat) : ∀ (es : List Edge) (s : Nat), (es.foldl (fun s e => if Region.binds .any e then s ||| (2 ^ e.on ||| acc.getD e.on 0) else s) s).testBit i = true →
    s.testBit i = true ∨ ∃ e ∈ es, Region.binds .any e = true ∧ (e.on = i ∨ (acc.getD e.on 0).testBit i = true)
  | [], s, h => .inl h
  | e :: es, s, h => by
    simp only [List.foldl_cons] at h
    rcases testBit_fold acc i es _ h with h | ⟨e', h1, h2, h3⟩
    · split at h
      · rename_i hb
        rw [Nat.testBit_or, Nat.testBit_or, Nat.testBit_two_pow] at h
        simp only [Bool.or_eq_true, decide_eq_true_eq] at h
        rcases h with h | h | h
        · exact .inl h
        · exact .inr ⟨e, by simp, hb, .inl h⟩
        · exact .inr ⟨e, by simp, hb, .inr h⟩
      · exact .inl h
    · exact .inr ⟨e', by simp [h1], h2, h3⟩
theorem ahead_edge : ∀ (os pre : List Oper) (acc : List Nat), acc.length = pre.length →
    (∀ (i j : Nat), j < pre.length → (acc.getD j 0).testBit i = true → ∃ o e, pre[j]? = some o ∧ e ∈ o.after.toList ∧ Region.binds .any e = true ∧ (e.on = i ∨ (acc.getD e.on 0).testBit i = true)) →
    ∀ (i j : Nat), j < (pre ++ os).length → ((masks os acc).getD j 0).testBit i = true →
      ∃ o e, (pre ++ os)[j]? = some o ∧ e ∈ o.after.toList ∧ Region.binds .any e = true ∧ (e.on = i ∨ ((masks os acc).getD e.on 0).testBit i = true)
  | [], pre, acc, hl, H, i, j, hj, h => by
    simp only [masks, List.append_nil] at h hj ⊢
    exact H i j hj h
  | o :: os, pre, acc, hl, H, i, j, hj, h => by
    have := ahead_edge os (pre ++ [o]) (acc ++ [maskOf acc o.after.toList]) (by simp [hl]) ?_ i j (by simpa using hj) h
    · simpa [masks] using this
    · intro i j hj h
      have lift : ∀ k, (acc.getD k 0).testBit i = true → ((acc ++ [maskOf acc o.after.toList]).getD k 0).testBit i = true := by
        intro k hk
        by_cases hlt : k < acc.length
        · simpa [List.getD_eq_getElem?_getD, List.getElem?_append_left hlt] using hk
        · rw [List.getD_eq_getElem?_getD, List.getElem?_eq_none (by omega)] at hk
          simp at hk
      by_cases hlt : j < pre.length
      · rw [List.getD_eq_getElem?_getD, List.getElem?_append_left (by omega), ← List.getD_eq_getElem?_getD] at h
        obtain ⟨o', e, h1, h2, h3, h4⟩ := H i j hlt h
        refine ⟨o', e, by rw [List.getElem?_append_left hlt]; exact h1, h2, h3, ?_⟩
        rcases h4 with h4 | h4
        · exact .inl h4
        · exact .inr (lift _ h4)
      · have : j = pre.length := by simp at hj; omega
        subst this
        rw [List.getD_eq_getElem?_getD, List.getElem?_append_right (by omega), hl, Nat.sub_self] at h
        simp only [List.getElem?_cons_zero, Option.getD_some] at h
        rcases testBit_fold acc i o.after.toList 0 h with h | ⟨e, h1, h2, h3⟩
        · simp at h
        · refine ⟨o, e, by simp, h1, h2, ?_⟩
          rcases h3 with h3 | h3
          · exact .inl h3
          · exact .inr (lift _ h3)
theorem ahead_sound {ops : List Oper} {i j : Nat} (hj : j < ops.length) (h : ahead (masks ops []) i j = true) :
    ∃ o e, ops[j]? = some o ∧ e ∈ o.after.toList ∧ Region.binds .any e = true ∧ (e.on = i ∨ ahead (masks ops []) i e.on = true) := by
  have := ahead_edge ops [] [] rfl (fun i j hj => by simp at hj) i j (by simpa using hj) h
  simpa [ahead, List.getD_eq_getElem?_getD] using this
theorem numbered_mem {ops : List Oper} {i : Nat} {o : Oper} (h : ops[i]? = some o) : (i, o) ∈ numbered ops := by
  unfold numbered
  have hi := (List.getElem?_eq_some_iff.1 h).1
  rw [List.mem_iff_getElem?]
  refine ⟨i, ?_⟩
  rw [List.getElem?_zip_eq_some]
  exact ⟨by simp [hi], h⟩
section
variable {C : Cfg} {ops : List Oper}
theorem edges_lt (h : drawOk C ops = true) {j : Nat} {o : Oper} (ho : ops[j]? = some o) {e : Edge} (he : e ∈ o.after.toList) (hb : Region.binds .any e = true) : e.on < j := by
  unfold drawOk at h
  simp only [Bool.and_eq_true] at h
  have h1 := h.1.1
  unfold edgesOk at h1
  rw [List.all_eq_true] at h1
  have h2 := h1 _ (numbered_mem ho)
  simp only at h2
  rw [List.all_eq_true] at h2
  have h3 := h2 e he
  simpa [hb] using h3
theorem tmps_apart (h : drawOk C ops = true) {i j : Nat} {p o : Oper} (hp : ops[i]? = some p) (ho : ops[j]? = some o) (hne : i ≠ j) {d : Tmp} (hd : p.dst = some d) :
    o.dst ≠ some d ∧ (d ∈ o.looksAt ops.toArray → if i < j then ahead (masks ops []) i j = true else ahead (masks ops []) j i = true) := by
  unfold drawOk at h
  simp only [Bool.and_eq_true] at h
  have h1 := h.1.2
  unfold tmpsOk at h1
  rw [List.all_eq_true] at h1
  have h2 := h1 _ (numbered_mem ho)
  simp only at h2
  rw [List.all_eq_true] at h2
  have h3 := h2 _ (numbered_mem hp)
  simp only [hd] at h3
  have hne' : (i == j) = false := by simpa using hne
  rw [hne'] at h3
  simp only [Bool.false_or, Bool.and_eq_true, Bool.or_eq_true, Bool.not_eq_true', bne_iff_ne, ne_eq] at h3
  refine ⟨h3.1, fun hm => ?_⟩
  rcases h3.2 with h | h
  · have : (o.looksAt ops.toArray).contains d = true := by simpa using hm
    rw [this] at h
    cases h
  · split at h
    · rename_i hlt; rw [if_pos hlt]; exact h
    · rename_i hlt; rw [if_neg hlt]; exact h
theorem effs_ordered (h : drawOk C ops = true) {i j : Nat} {p o : Oper} (hp : ops[i]? = some p) (ho : ops[j]? = some o) (hlt : i < j) (h1 : cls C p = .eff) (h2 : cls C o = .eff) : ahead (masks ops []) i j = true := by
  unfold drawOk at h
  simp only [Bool.and_eq_true] at h
  have h3 := h.2
  unfold effsOk at h3
  rw [List.all_eq_true] at h3
  have h4 := h3 _ (numbered_mem ho)
  simp only [h2] at h4
  simp only [bne_self_eq_false, Bool.false_or] at h4
  rw [List.all_eq_true] at h4
  have h5 := h4 _ (numbered_mem hp)
  simpa [h1, hlt] using h5
theorem pairs_mem {i j : Nat} {o p : Oper} (ho : ops[i]? = some o) (hp : ops[j]? = some p) (h1 : cls C o = .read) (h2 : cls C p = .eff)
    (h3 : (if j < i then ahead (masks ops []) j i else ahead (masks ops []) i j) = false) : (i, j) ∈ pairsOf C ops := by
  unfold pairsOf
  rw [List.mem_flatMap]
  refine ⟨(i, o), numbered_mem ho, ?_⟩
  simp only [h1, if_true]
  rw [List.mem_filterMap]
  refine ⟨(j, p), numbered_mem hp, ?_⟩
  simp only [h2, true_and, h3, if_true]
theorem text_of {call : CallF} : ∀ (os : List Oper) (T : Tm) (m : Mem) (E : List Ev) (T2 : Tm) (m2 : Mem), aOps C call ops os T m = some (E, T2, m2) →
    ∃ S : Nat → Tm × Mem, S 0 = (T, m) ∧ S os.length = (T2, m2) ∧
      ∀ (i : Nat) o, os[i]? = some o → ∃ nm, aStep C call ops (S i).1 (S i).2 o = some ((S (i + 1)).1, (S (i + 1)).2, nm) ∧ E[i]? = some ⟨(S i).2, (S (i + 1)).2, nm⟩
  | [], T, m, E, T2, m2, h => by
    simp only [aOps] at h
    cases h
    exact ⟨fun _ => (T, m), rfl, rfl, fun i o ho => by simp at ho⟩
  | o :: os, T, m, E, T2, m2, h => by
    simp only [aOps] at h
    split at h
    · cases h
    · rename_i T1 m1 n1 hs
      split at h
      · cases h
      · rename_i E2 T3 m3 hr
        cases h
        obtain ⟨S, s0, s1, s2⟩ := text_of os T1 m1 E2 T2 m2 hr
        refine ⟨fun i => match i with | 0 => (T, m) | i + 1 => S i, rfl, s1, ?_⟩
        intro i o' ho'
        cases i with
        | zero =>
          simp only [List.getElem?_cons_zero, Option.some.injEq] at ho'
          subst ho'
          refine ⟨n1, ?_, ?_⟩
          · simp only [s0]; exact hs
          · simp [s0]
        | succ i =>
          simp only [List.getElem?_cons_succ] at ho'
          obtain ⟨nm, e1, e2⟩ := s2 i o' ho'
          exact ⟨nm, e1, by simpa using e2⟩
theorem aStep_temps {call : CallF} {T T' : Tm} {m m' : Mem} {o : Oper} {n : Option Nat} (h : aStep C call ops T m o = some (T', m', n)) : ∃ v, T' = putD T o.dst v := by
  unfold aStep at h
  split at h
  · cases h
  · cases h; exact ⟨_, rfl⟩
  · split at h
    · cases h; exact ⟨_, rfl⟩
    · cases h
theorem lookup_putD {T : Tm} {d : Option Tmp} {v : Value} {t : Nat} (h : d ≠ some t) : (putD T d v).lookup t = T.lookup t := by
  cases d with
  | none => rfl
  | some d =>
    have : (t == d) = false := by simp; rintro rfl; exact h rfl
    simp [putD, List.lookup_cons, this]
theorem aStep_mem {call : CallF} {T T' : Tm} {m m' : Mem} {o : Oper} {n : Option Nat} (h : aStep C call ops T m o = some (T', m', n)) (hc : cls C o ≠ .eff) : m' = m ∨ (cls C o = .alloc ∧ ∃ b, m' = m ++ [b]) := by
  unfold aStep at h
  split at h
  · cases h
  · cases h; exact .inl rfl
  · split at h
    · rename_i v m1 n1 ha
      cases h
      unfold aOp at ha
      split at ha
      · split at ha
        · cases ha; exact .inl rfl
        · cases ha
      · split at ha
        · cases ha; exact .inr ⟨‹_›, _, rfl⟩
        · cases ha
      · split at ha
        · cases ha; exact .inl rfl
        · cases ha
      · exact absurd ‹_› hc
    · cases h
end
end Go.Ab
