/- Functions over values that stand for Go code, and the proof that the evaluator runs as they say. -/
import Derived.Test.YtiepalcnkcjphaaFB
import Derived.Test.YtiepalcnkcjphaaAbD
set_option linter.unusedVariables false
set_option linter.unusedSimpArgs false
namespace Go.Ab
attribute [congr] ite_congr
@[congr] theorem bo_congr {α β : Type} {x y : Option α} {k : α → Option β} (h : x = y) : bo k x = bo k y := by rw [h]
@[simp] theorem bo_some' {α β : Type} (a : α) (k : α → Option β) : bo k (some a) = k a := (rfl)
@[simp] theorem bo_none' {α β : Type} (k : α → Option β) : bo k none = none := (rfl)
@[simp] theorem ob_bo {α β : Type} (x : Option α) (k : α → Option β) : ob x k = bo k x := (rfl)
@[simp] theorem bo_ite {α β : Type} (c : Prop) [Decidable c] (x y : Option α) (k : α → Option β) : bo k (if c then x else y) = if c then bo k x else bo k y := by split <;> rfl
@[simp] theorem gP_true (x : Option VM) : gP True x = x := by unfold gP; rw [if_pos trivial]
@[congr] theorem brX_congr {v w : Value} {a b : Option VM} (h : v = w) : brX v a b = brX w a b := by rw [h]
@[congr] theorem gd_congr {g h : Value} {w : Bool} {x : Option VM} {m : Mem} (e : g = h) : gd g w x m = gd h w x m := by rw [e]
@[congr] theorem gP_congr {P Q : Prop} {x : Option VM} (h : P = Q) : gP P x = gP Q x := by rw [h]
@[simp ↓] theorem bo_some_pre {α β : Type} (a : α) (k : α → Option β) : bo k (some a) = k a := (rfl)
@[simp ↓] theorem bo_none_pre {α β : Type} (k : α → Option β) : bo k none = none := (rfl)
@[simp ↓] theorem bo_ite_pre {α β : Type} (c : Prop) [Decidable c] (x y : Option α) (k : α → Option β) : bo k (if c then x else y) = if c then bo k x else bo k y := by split <;> rfl
@[simp ↓] theorem brX_pre (t : Bool) (a b : Option VM) : brX (.bool t) a b = if t = true then a else b := (rfl)
@[simp ↓] theorem gd_pre (b w : Bool) (x : Option VM) (m : Mem) : gd (.bool b) w x m = if b = w then x else some (.tuple #[], m) := (rfl)
@[simp ↓] theorem gd_pre2 (vs : Array Value) (w : Bool) (x : Option VM) (m : Mem) : gd (.tuple vs) w x m = some (.tuple #[], m) := (rfl)
@[simp ↓] theorem gP_pre (x : Option VM) : gP True x = x := by unfold gP; rw [if_pos trivial]
@[simp] theorem brX_bool (t : Bool) (a b : Option VM) : brX (.bool t) a b = if t = true then a else b := (rfl)
@[simp] theorem pickX_bool (t : Bool) (a b : Value) : pickX (.bool t) a b = if t = true then some a else some b := by cases t <;> rfl
@[simp] theorem gd_bool (b w : Bool) (x : Option VM) (m : Mem) : gd (.bool b) w x m = if b = w then x else some (.tuple #[], m) := (rfl)
@[simp] theorem gd_tuple (vs : Array Value) (w : Bool) (x : Option VM) (m : Mem) : gd (.tuple vs) w x m = some (.tuple #[], m) := (rfl)
@[simp] theorem gdN_bool (b w : Bool) (n : Option Nat) : gdN (.bool b) w n = if b = w then n else none := (rfl)
@[simp] theorem gdN_tuple (vs : Array Value) (w : Bool) (n : Option Nat) : gdN (.tuple vs) w n = none := (rfl)
@[simp] theorem stbL_nil : stbL [] = True := (rfl)
@[simp] theorem stbL_cons (n : Option Nat) (a b : Mem) (l : List (Option Nat × Mem × Mem)) : stbL ((n, a, b) :: l) = (stb n a b ∧ stbL l) := (rfl)
@[simp] theorem stb_none (a b : Mem) : stb none a b = True := (rfl)
@[simp] theorem stb_same (n : Option Nat) (a : Mem) : stb n a a = True := by cases n <;> simp [stb]
@[simp] theorem stb_some (n : Nat) (a b : Mem) : stb (some n) a b = ((b[n]?).map (fun x => (x.cells, x.live)) = (a[n]?).map (fun x => (x.cells, x.live))) := (rfl)
@[simp] theorem rdN_ptr (n o : Nat) : rdN (.pointer (some ⟨n, o, none⟩)) = some n := (rfl)
@[simp] theorem rdN_sl (n o a b : Nat) : rdN (.slice (some ⟨n, o, none⟩) a b) = some n := (rfl)
@[simp] theorem rdN_nil (a b : Nat) : rdN (.slice none a b) = none := (rfl)
@[simp] theorem rdN_iface (n : Nat) (v : Value) : rdN (.iface n v) = none := (rfl)
def andI (k : IntKind) (a b : Int) : Int := k.wrap (BitVec.ofInt k.bits a &&& BitVec.ofInt k.bits b).toNat
def orI (k : IntKind) (a b : Int) : Int := k.wrap (BitVec.ofInt k.bits a ||| BitVec.ofInt k.bits b).toNat
def xorI (k : IntKind) (a b : Int) : Int := k.wrap (BitVec.ofInt k.bits a ^^^ BitVec.ofInt k.bits b).toNat
def shrI (k : IntKind) (a b : Int) : Int := a.fdiv (2 ^ min b.toNat k.bits)
def shlI (k : IntKind) (a b : Int) : Int := k.wrap (a * 2 ^ min b.toNat k.bits)
section
variable (e : EK) (k : IntKind) (a b : Int)
@[simp] theorem bin_add : binX .add e (.int k a) (.int k b) = some (.int k (k.wrap (a + b))) := by simp [binX, isShift, intOp]
@[simp] theorem bin_sub : binX .sub e (.int k a) (.int k b) = some (.int k (k.wrap (a - b))) := by simp [binX, isShift, intOp]
@[simp] theorem bin_mul : binX .mul e (.int k a) (.int k b) = some (.int k (k.wrap (a * b))) := by simp [binX, isShift, intOp]
@[simp] theorem bin_quo : binX .quo e (.int k a) (.int k b) = if b = 0 then none else some (.int k (k.wrap (a.tdiv b))) := by simp [binX, isShift, intOp]
@[simp] theorem bin_rem : binX .rem e (.int k a) (.int k b) = if b = 0 then none else some (.int k (a.tmod b)) := by simp [binX, isShift, intOp]
@[simp] theorem bin_and : binX .and e (.int k a) (.int k b) = some (.int k (andI k a b)) := by simp [binX, isShift, intOp, andI]
@[simp] theorem bin_or : binX .or e (.int k a) (.int k b) = some (.int k (orI k a b)) := by simp [binX, isShift, intOp, orI]
@[simp] theorem bin_xor : binX .xor e (.int k a) (.int k b) = some (.int k (xorI k a b)) := by simp [binX, isShift, intOp, xorI]
@[simp] theorem bin_andNot : binX .andNot e (.int k a) (.int k b) = some (.int k (k.wrap (BitVec.ofInt k.bits a &&& ~~~(BitVec.ofInt k.bits b)).toNat)) := by simp [binX, isShift, intOp]
@[simp] theorem bin_eql : binX .eql e (.int k a) (.int k b) = some (.bool (a == b)) := by simp [binX, isShift, intOp]
@[simp] theorem bin_neq : binX .neq e (.int k a) (.int k b) = some (.bool (a != b)) := by simp [binX, isShift, intOp]
@[simp] theorem bin_lss : binX .lss e (.int k a) (.int k b) = some (.bool (decide (a < b))) := by simp [binX, isShift, intOp]
@[simp] theorem bin_leq : binX .leq e (.int k a) (.int k b) = some (.bool (decide (a ≤ b))) := by simp [binX, isShift, intOp]
@[simp] theorem bin_gtr : binX .gtr e (.int k a) (.int k b) = some (.bool (decide (b < a))) := by simp [binX, isShift, intOp]
@[simp] theorem bin_geq : binX .geq e (.int k a) (.int k b) = some (.bool (decide (b ≤ a))) := by simp [binX, isShift, intOp]
@[simp] theorem bin_shl (k' : IntKind) : binX .shl e (.int k a) (.int k' b) = if b < 0 then none else some (.int k (shlI k a b)) := by simp [binX, isShift, shiftOp, shlI]
@[simp] theorem bin_shr (k' : IntKind) : binX .shr e (.int k a) (.int k' b) = if b < 0 then none else some (.int k (shrI k a b)) := by simp [binX, isShift, shiftOp, shrI]
end
@[simp] theorem bin_eqlB (a b : Bool) : binX .eql .bool (.bool a) (.bool b) = some (.bool (a == b)) := (rfl)
@[simp] theorem bin_neqB (a b : Bool) : binX .neq .bool (.bool a) (.bool b) = some (.bool (!(a == b))) := (rfl)
@[simp] theorem bin_eqlS (e : EK) (a b : ByteArray) : binX .eql e (.string a) (.string b) = some (.bool (a.toList == b.toList)) := (rfl)
@[simp] theorem bin_neqS (e : EK) (a b : ByteArray) : binX .neq e (.string a) (.string b) = some (.bool (!(a.toList == b.toList))) := (rfl)
@[simp] theorem bin_addS (e : EK) (a b : ByteArray) : binX .add e (.string a) (.string b) = if a.size + b.size ≤ 4611686018427387904 then some (.string (a ++ b)) else none := (rfl)
@[simp] theorem bin_eqlT (o : List Nat) (a b : Array Value) : binX .eql (.st o) (.agg a) (.agg b) = (eqFX o a.toList b.toList).map .bool := (rfl)
@[simp] theorem bin_neqT (o : List Nat) (a b : Array Value) : binX .neq (.st o) (.agg a) (.agg b) = (eqFX o a.toList b.toList).map fun z => .bool (!z) := (rfl)
@[simp] theorem bin_eqlP (p : Option Addr) : binX .eql .ptr (.pointer none) (.pointer p) = some (.bool p.isNone) := (rfl)
@[simp] theorem bin_eqlP' (p : Addr) : binX .eql .ptr (.pointer (some p)) (.pointer none) = some (.bool false) := (rfl)
@[simp] theorem bin_neqP' (p : Addr) : binX .neq .ptr (.pointer (some p)) (.pointer none) = some (.bool true) := (rfl)
@[simp] theorem eqFX_nil (xs ys : List Value) : eqFX [] xs ys = some true := (rfl)
theorem eqFX_cons (o : Nat) (r : List Nat) (xs ys : List Value) : eqFX (o :: r) xs ys = match xs[o]?, ys[o]? with
    | some (.int k a), some (.int k' b) => if k = k' then (match eqFX r xs ys with
      | some c => some (a == b && c)
      | none => none) else none
    | _, _ => none := (rfl)
@[simp] theorem uop_not (b : Bool) : uop .not (.bool b) = some (.bool (!b)) := (rfl)
@[simp] theorem uop_neg (k : IntKind) (n : Int) : uop .neg (.int k n) = some (.int k (k.wrap (0 - n))) := (rfl)
@[simp] theorem cvI_int (k k' : IntKind) (n : Int) : cvI k (.int k' n) = some (.int k (k.wrap n)) := (rfl)
@[simp] theorem cvS_str (s : ByteArray) : cvS (.string s) = some (.string s) := (rfl)
@[simp] theorem minMax_one (mx : Bool) (k : IntKind) (x : Int) : minMax mx (.int k x) [] = some (.int k x) := (rfl)
@[simp] theorem min_two (k k' : IntKind) (x y : Int) (r : List Value) : minMax false (.int k x) (.int k' y :: r) = minMax false (.int k (min x y)) r := by
  simp only [minMax, Bool.false_eq_true, if_false]
  congr 2
  omega
@[simp] theorem max_two (k k' : IntKind) (x y : Int) (r : List Value) : minMax true (.int k x) (.int k' y :: r) = minMax true (.int k (max x y)) r := by
  simp only [minMax, if_true]
  congr 2
  omega
theorem wrap_u8' {x : Int} (h0 : 0 ≤ x) (h1 : x < 256) : IntKind.u8.wrap x = x := by
  have : ∀ n : Nat, n < 256 → IntKind.u8.wrap (n : Int) = n := by decide +kernel
  have := this x.toNat (by omega)
  rwa [show ((x.toNat : Nat) : Int) = x by omega] at this
theorem wrap_i64 {x : Int} (h0 : -9223372036854775808 ≤ x) (h1 : x < 9223372036854775808) : IntKind.i64.wrap x = x := wrap64 h0 h1
@[simp] theorem fld1_agg (off : Nat) (cs : Array Value) : fld1 off (.agg cs) = cs.toList[off]? := (rfl)
@[simp] theorem fldS_agg (off sz : Nat) (cs : Array Value) : fldS off sz (.agg cs) = some (.agg ((cs.toList.drop off).take sz).toArray) := (rfl)
@[simp] theorem extX_tuple (i : Nat) (vs : Array Value) : extX i (.tuple vs) = vs.toList[i]? := (rfl)
@[simp] theorem fadX_ptr (off n o : Nat) : fadX off (.pointer (some ⟨n, o, none⟩)) = some (.pointer (some ⟨n, o + off, none⟩)) := (rfl)
@[simp] theorem fadX_ro (off : Nat) (cs : Array Value) : fadX off (.iface 0 (.tuple cs)) = some (roP (cs.toList.drop off)) := (rfl)
@[simp] theorem nilX_ptr (a : Addr) : nilX (.pointer (some a)) = some (.pointer (some a)) := (rfl)
@[simp] theorem nilX_ro (cs : Array Value) : nilX (.iface 0 (.tuple cs)) = some (.iface 0 (.tuple cs)) := (rfl)
@[simp] theorem lenS_str (s : ByteArray) : lenS' (.string s) = some (.int .i64 s.size) := (rfl)
@[simp] theorem lenX_sl (a : Option Addr) (n c : Nat) : lenX (.slice a n c) = some (.int .i64 n) := (rfl)
@[simp] theorem lenX_ro (n : Nat) (cs : Array Value) : lenX (.iface n (.agg cs)) = some (.int .i64 n) := (rfl)
@[simp] theorem capX_nil (n c : Nat) : capX (.slice none n c) = some (.int .i64 c) := (rfl)
@[simp] theorem cond_beq {α : Type} (a b : Nat) (x y : α) : (bif Nat.beq a b then x else y) = if a = b then x else y := by
  cases h : Nat.beq a b with
  | true => rw [if_pos (Nat.eq_of_beq_eq_true h)]; rfl
  | false => rw [if_neg (fun e => by subst e; simp at h)]; rfl
@[simp] theorem callV_fn (cf : CallF) (g : FuncId) (a b : Array Value) (vs : List Value) (m : Mem) : callV cf (.func (.func g) a b) vs m = cf g (a.toList ++ vs ++ b.toList) m := (rfl)
@[simp] theorem cfc_app (g f : FuncId) (X : List Value → Mem → Option VM) (r : CallF) : cfc g X r f = cond (Nat.beq f g) X (r f) := (rfl)
@[simp] theorem layX_nil (c : List Value) : layX c [] = some c := (rfl)
@[simp] theorem layX_cons (c : List Value) (off size : Nat) (v : Value) (r : List (Nat × Nat × Value)) : layX c ((off, size, v) :: r) = if v.cells.size = size ∧ off + size ≤ c.length then layX (lay c off v.cells.toList) r else none := (rfl)
@[simp] theorem bldX_eq (z : List Value) (ps : List (Nat × Nat × Value)) : bldX z ps = bo (fun cs => some (.agg cs.toArray)) (layX z ps) := (rfl)
@[simp] theorem lay_nl (l : List Value) (o : Nat) : lay l o [] = l := lay_nil l o
@[simp] theorem lay_zero (x : Value) (xs : List Value) (v : Value) (vs : List Value) : lay (x :: xs) 0 (v :: vs) = v :: lay xs 0 vs := (rfl)
@[simp] theorem lay_succ (x : Value) (xs : List Value) (o : Nat) (v : Value) (vs : List Value) : lay (x :: xs) (o + 1) (v :: vs) = x :: lay xs o (v :: vs) := (rfl)
attribute [simp] cells_int
attribute [simp] cells_bool
@[simp] theorem cells_str (s : ByteArray) : (Value.string s).cells = #[.string s] := (rfl)
@[simp] theorem cells_ptr (p : Option Addr) : (Value.pointer p).cells = #[.pointer p] := (rfl)
@[simp] theorem cells_sl (p : Option Addr) (n c : Nat) : (Value.slice p n c).cells = #[.slice p n c] := (rfl)
attribute [simp] cells_iface
@[simp] theorem cells_func (f : Fn) (a b : Array Value) : (Value.func f a b).cells = #[.func f a b] := (rfl)
attribute [simp] cells_agg
@[simp] theorem flat_int (k : IntKind) (n : Int) : flat (.int k n) = true := (rfl)
@[simp] theorem flat_bool (b : Bool) : flat (.bool b) = true := (rfl)
@[simp] theorem flat_str (s : ByteArray) : flat (.string s) = true := (rfl)
@[simp] theorem flat_ptr (p : Option Addr) : flat (.pointer p) = true := (rfl)
@[simp] theorem flat_sl (p : Option Addr) (n c : Nat) : flat (.slice p n c) = true := (rfl)
@[simp] theorem flat_iface (n : Nat) (v : Value) : flat (.iface n v) = true := (rfl)
@[simp] theorem flat_func (f : Fn) (a b : Array Value) : flat (.func f a b) = true := (rfl)
@[simp] theorem inert_int (k : IntKind) (n : Int) : inert (.int k n) = true := (rfl)
@[simp] theorem inert_bool (b : Bool) : inert (.bool b) = true := (rfl)
@[simp] theorem inert_str (s : ByteArray) : inert (.string s) = true := (rfl)
@[simp] theorem inert_nf : inert .nilFunc = true := (rfl)
@[simp] theorem inert_pn : inert (.pointer none) = true := (rfl)
@[simp] theorem inert_ps (a : Addr) : inert (.pointer (some a)) = false := (rfl)
@[simp] theorem inert_sn : inert (.slice none 0 0) = true := (rfl)
@[simp] theorem inert_ss (a : Addr) (n c : Nat) : inert (.slice (some a) n c) = false := (rfl)
@[simp] theorem inert_iface (n : Nat) (v : Value) : inert (.iface n v) = true := (rfl)
@[simp] theorem inert_agg (a : Array Value) : inert (.agg a) = false := (rfl)
@[simp] theorem inert_tuple (a : Array Value) : inert (.tuple a) = false := (rfl)
@[simp] theorem inert_func (f : Fn) (a b : Array Value) : inert (.func f a b) = false := (rfl)
@[simp] theorem hard_int (k : IntKind) (n : Int) : hard (.int k n) = true := (rfl)
@[simp] theorem hard_bool (b : Bool) : hard (.bool b) = true := (rfl)
@[simp] theorem hard_str (s : ByteArray) : hard (.string s) = true := (rfl)
@[simp] theorem hard_nf : hard .nilFunc = true := (rfl)
@[simp] theorem hard_pn : hard (.pointer none) = true := (rfl)
@[simp] theorem hard_ps (a : Addr) : hard (.pointer (some a)) = false := (rfl)
@[simp] theorem hard_sn : hard (.slice none 0 0) = true := (rfl)
@[simp] theorem hard_ss (a : Addr) (n c : Nat) : hard (.slice (some a) n c) = false := (rfl)
@[simp] theorem hard_agg (a : Array Value) : hard (.agg a) = false := (rfl)
@[simp] theorem hard_tuple (a : Array Value) : hard (.tuple a) = false := (rfl)
@[simp] theorem rd_zero (m : Mem) (n o : Nat) : rd m n o 0 = some [] := by unfold rd; simp
@[simp] theorem rd_succ (m : Mem) (n o k : Nat) : rd m n o (k + 1) = match m[n]? with
  | some b => if b.live = true ∧ o + (k + 1) ≤ b.cells.length then some ((b.cells.drop o).take (k + 1)) else none
  | none => none := if_neg (by omega)
@[simp] theorem ld1_ptr (m : Mem) (n o : Nat) : ld1 m (.pointer (some ⟨n, o, none⟩)) = match m[n]? with
  | some b => if b.live = true then b.cells[o]? else none
  | none => none := by
  show one (rd m n o 1) = _
  rw [rd_succ]
  cases m[n]? with
  | none => rfl
  | some b =>
    simp only
    by_cases hl : b.live = true
    · rw [if_pos hl]
      by_cases h : o < b.cells.length
      · rw [if_pos ⟨hl, by omega⟩, List.getElem?_eq_getElem h, List.drop_eq_getElem_cons h]
        rfl
      · rw [if_neg (fun c => h (by omega)), List.getElem?_eq_none (by omega)]
        rfl
    · rw [if_neg hl, if_neg (fun c => hl c.1)]
      rfl
@[simp] theorem ld1_ro (m : Mem) (cs : Array Value) : ld1 m (.iface 0 (.tuple cs)) = cs.toList[0]? := (rfl)
@[simp] theorem ldS_ptr (m : Mem) (sz n o : Nat) : ldS m sz (.pointer (some ⟨n, o, none⟩)) = bo (fun cs => some (.agg cs.toArray)) (rd m n o sz) := (rfl)
@[simp] theorem ldS_ro (m : Mem) (sz : Nat) (cs : Array Value) : ldS m sz (.iface 0 (.tuple cs)) = if sz ≤ cs.size then some (.agg (cs.toList.take sz).toArray) else none := (rfl)
@[simp] theorem resP_none (m : Mem) (n o : Nat) : resP none m (.pointer (some ⟨n, o, none⟩)) = ld1 m (.pointer (some ⟨n, o, none⟩)) := (rfl)
@[simp] theorem resP_some (m : Mem) (sz n o : Nat) : resP (some sz) m (.pointer (some ⟨n, o, none⟩)) = ldS m sz (.pointer (some ⟨n, o, none⟩)) := (rfl)
theorem splice_lay {l : List Value} {o : Nat} {vs : List Value} (h : o + vs.length ≤ l.length) : splice l o vs = lay l o vs := (lay_eq l o vs h).symm
@[simp] theorem stX_ptr (m : Mem) (sz n o : Nat) (x : Value) : stX m sz (.pointer (some ⟨n, o, none⟩)) x = if x.cells.size = sz ∧ x.cells.toList.all flat = true then (match m[n]? with
  | some b => if b.live = true ∧ b.own = true ∧ o + x.cells.toList.length ≤ b.cells.length then some (m.set n { b with cells := lay b.cells o x.cells.toList }) else (if x.cells.toList = [] then some m else none)
  | none => if x.cells.toList = [] then some m else none) else none := by
  unfold stX
  simp only
  split
  · unfold wr
    split
    · rename_i h0
      rw [h0]
      cases hm : m[n]? with
      | none => simp
      | some b =>
        simp only
        split
        · congr 1
          have : n < m.length := (List.getElem?_eq_some_iff.1 hm).1
          have e : m[n] = b := (List.getElem?_eq_some_iff.1 hm).2
          rw [lay_nil]
          subst e
          exact (List.set_getElem_self this).symm
        · simp
    · rename_i h0
      cases m[n]? with
      | none => simp
      | some b =>
        simp only
        split
        · rename_i h1
          rw [splice_lay h1.2.2]
        · simp
  · rfl
@[simp] theorem alX_eq (m : Mem) (z : List Value) : alX m z = some (.pointer (some ⟨m.length, 0, none⟩), m ++ [⟨z, 0, true, true⟩]) := (rfl)
@[simp] theorem boxX_eq (m : Mem) (x : Value) : boxX m x = if x.cells.toList.all flat then some (.pointer (some ⟨m.length, 0, none⟩), m ++ [⟨x.cells.toList, 0, true, true⟩]) else none := (rfl)
@[simp] theorem bslX_eq (m : Mem) (len sz : Nat) (z : List Value) (ps : List (Nat × Nat × Value)) : bslX m len sz z ps = if len * sz ≤ 16777216 ∧ ps.all (fun p => p.2.2.cells.toList.all flat) = true then
    bo (fun cs => some (.slice (some ⟨m.length, 0, none⟩) len len, m ++ [⟨cs, sz, true, true⟩])) (layX (List.replicate len z).flatten ps) else none := (rfl)
@[simp] theorem mapO_nil (f : Value → Option Value) : mapO f [] = some [] := (rfl)
@[simp] theorem mapO_cons (f : Value → Option Value) (x : Value) (xs : List Value) : mapO f (x :: xs) = bo (fun y => bo (fun ys => some (y :: ys)) (mapO f xs)) (f x) := (rfl)
@[simp] theorem mapB_nil (f : Blk → Option Blk) : mapB f [] = some [] := (rfl)
@[simp] theorem mapB_cons (f : Blk → Option Blk) (x : Blk) (xs : Mem) : mapB f (x :: xs) = bo (fun y => bo (fun ys => some (y :: ys)) (mapB f xs)) (f x) := (rfl)
theorem rnV_p {k : Nat} {p : Value → Bool} {π : Nat → Option Nat} {v : Value} (h : p v = true) : rnV (k + 1) p π v = some v := by
  unfold rnV
  rw [if_pos h]
theorem rnV_ptr (k : Nat) (p : Value → Bool) (π : Nat → Option Nat) (n o : Nat) (h : p (.pointer (some ⟨n, o, none⟩)) = false) : rnV (k + 1) p π (.pointer (some ⟨n, o, none⟩)) = bo (fun n' => some (.pointer (some ⟨n', o, none⟩))) (π n) := by
  unfold rnV
  rw [h]
  rfl
theorem rnV_sl (k : Nat) (p : Value → Bool) (π : Nat → Option Nat) (n o l c : Nat) (h : p (.slice (some ⟨n, o, none⟩) l c) = false) : rnV (k + 1) p π (.slice (some ⟨n, o, none⟩) l c) = bo (fun n' => some (.slice (some ⟨n', o, none⟩) l c)) (π n) := by
  unfold rnV
  rw [h]
  rfl
theorem rnV_agg (k : Nat) (p : Value → Bool) (π : Nat → Option Nat) (cs : Array Value) (h : p (.agg cs) = false) : rnV (k + 1) p π (.agg cs) = bo (fun xs => some (.agg xs.toArray)) (mapO (rnV k p π) cs.toList) := by
  unfold rnV
  rw [h]
  rfl
theorem rnV_tuple (k : Nat) (p : Value → Bool) (π : Nat → Option Nat) (cs : Array Value) (h : p (.tuple cs) = false) : rnV (k + 1) p π (.tuple cs) = bo (fun xs => some (.tuple xs.toArray)) (mapO (rnV k p π) cs.toList) := by
  unfold rnV
  rw [h]
  rfl
theorem rnV_func (k : Nat) (p : Value → Bool) (π : Nat → Option Nat) (f : Fn) (a b : Array Value) (h : p (.func f a b) = false) : rnV (k + 1) p π (.func f a b) = bo (fun xs => bo (fun ys => some (.func f xs.toArray ys.toArray)) (mapO (rnV k p π) b.toList)) (mapO (rnV k p π) a.toList) := by
  unfold rnV
  rw [h]
  rfl
@[simp] theorem rn_inert_int (k : Nat) (π : Nat → Option Nat) (q : IntKind) (n : Int) : rnV (k + 1) inert π (.int q n) = some (.int q n) := rnV_p rfl
@[simp] theorem rn_inert_bool (k : Nat) (π : Nat → Option Nat) (b : Bool) : rnV (k + 1) inert π (.bool b) = some (.bool b) := rnV_p rfl
@[simp] theorem rn_inert_str (k : Nat) (π : Nat → Option Nat) (s : ByteArray) : rnV (k + 1) inert π (.string s) = some (.string s) := rnV_p rfl
@[simp] theorem rn_inert_nf (k : Nat) (π : Nat → Option Nat)  : rnV (k + 1) inert π (.nilFunc) = some (.nilFunc) := rnV_p rfl
@[simp] theorem rn_inert_pn (k : Nat) (π : Nat → Option Nat)  : rnV (k + 1) inert π (.pointer none) = some (.pointer none) := rnV_p rfl
@[simp] theorem rn_inert_sn (k : Nat) (π : Nat → Option Nat)  : rnV (k + 1) inert π (.slice none 0 0) = some (.slice none 0 0) := rnV_p rfl
@[simp] theorem rn_inert_if (k : Nat) (π : Nat → Option Nat) (n : Nat) (v : Value) : rnV (k + 1) inert π (.iface n v) = some (.iface n v) := rnV_p rfl
@[simp] theorem rn_inert_ptr (k : Nat) (π : Nat → Option Nat) (n o : Nat) : rnV (k + 1) inert π (.pointer (some ⟨n, o, none⟩)) = bo (fun n' => some (.pointer (some ⟨n', o, none⟩))) (π n) := rnV_ptr _ _ _ _ _ rfl
@[simp] theorem rn_inert_sl (k : Nat) (π : Nat → Option Nat) (n o l c : Nat) : rnV (k + 1) inert π (.slice (some ⟨n, o, none⟩) l c) = bo (fun n' => some (.slice (some ⟨n', o, none⟩) l c)) (π n) := rnV_sl _ _ _ _ _ _ _ rfl
@[simp] theorem rn_inert_agg (k : Nat) (π : Nat → Option Nat) (cs : Array Value) : rnV (k + 1) inert π (.agg cs) = bo (fun xs => some (.agg xs.toArray)) (mapO (rnV k inert π) cs.toList) := rnV_agg _ _ _ _ rfl
@[simp] theorem rn_inert_tuple (k : Nat) (π : Nat → Option Nat) (cs : Array Value) : rnV (k + 1) inert π (.tuple cs) = bo (fun xs => some (.tuple xs.toArray)) (mapO (rnV k inert π) cs.toList) := rnV_tuple _ _ _ _ rfl
@[simp] theorem rn_inert_func (k : Nat) (π : Nat → Option Nat) (f : Fn) (a b : Array Value) : rnV (k + 1) inert π (.func f a b) = bo (fun xs => bo (fun ys => some (.func f xs.toArray ys.toArray)) (mapO (rnV k inert π) b.toList)) (mapO (rnV k inert π) a.toList) := rnV_func _ _ _ _ _ _ rfl
@[simp] theorem rn_hard_int (k : Nat) (π : Nat → Option Nat) (q : IntKind) (n : Int) : rnV (k + 1) hard π (.int q n) = some (.int q n) := rnV_p rfl
@[simp] theorem rn_hard_bool (k : Nat) (π : Nat → Option Nat) (b : Bool) : rnV (k + 1) hard π (.bool b) = some (.bool b) := rnV_p rfl
@[simp] theorem rn_hard_str (k : Nat) (π : Nat → Option Nat) (s : ByteArray) : rnV (k + 1) hard π (.string s) = some (.string s) := rnV_p rfl
@[simp] theorem rn_hard_nf (k : Nat) (π : Nat → Option Nat)  : rnV (k + 1) hard π (.nilFunc) = some (.nilFunc) := rnV_p rfl
@[simp] theorem rn_hard_pn (k : Nat) (π : Nat → Option Nat)  : rnV (k + 1) hard π (.pointer none) = some (.pointer none) := rnV_p rfl
@[simp] theorem rn_hard_sn (k : Nat) (π : Nat → Option Nat)  : rnV (k + 1) hard π (.slice none 0 0) = some (.slice none 0 0) := rnV_p rfl
@[simp] theorem rn_hard_ptr (k : Nat) (π : Nat → Option Nat) (n o : Nat) : rnV (k + 1) hard π (.pointer (some ⟨n, o, none⟩)) = bo (fun n' => some (.pointer (some ⟨n', o, none⟩))) (π n) := rnV_ptr _ _ _ _ _ rfl
@[simp] theorem rn_hard_sl (k : Nat) (π : Nat → Option Nat) (n o l c : Nat) : rnV (k + 1) hard π (.slice (some ⟨n, o, none⟩) l c) = bo (fun n' => some (.slice (some ⟨n', o, none⟩) l c)) (π n) := rnV_sl _ _ _ _ _ _ _ rfl
@[simp] theorem rn_hard_agg (k : Nat) (π : Nat → Option Nat) (cs : Array Value) : rnV (k + 1) hard π (.agg cs) = bo (fun xs => some (.agg xs.toArray)) (mapO (rnV k hard π) cs.toList) := rnV_agg _ _ _ _ rfl
@[simp] theorem rn_hard_tuple (k : Nat) (π : Nat → Option Nat) (cs : Array Value) : rnV (k + 1) hard π (.tuple cs) = bo (fun xs => some (.tuple xs.toArray)) (mapO (rnV k hard π) cs.toList) := rnV_tuple _ _ _ _ rfl
@[simp] theorem rn_hard_func (k : Nat) (π : Nat → Option Nat) (f : Fn) (a b : Array Value) : rnV (k + 1) hard π (.func f a b) = bo (fun xs => bo (fun ys => some (.func f xs.toArray ys.toArray)) (mapO (rnV k hard π) b.toList)) (mapO (rnV k hard π) a.toList) := rnV_func _ _ _ _ _ _ rfl
@[simp] theorem ixOf_nil (n : Nat) : ixOf [] n = none := (rfl)
@[simp] theorem ixOf_cons (a n : Nat) (l : List Nat) : ixOf (a :: l) n = if a = n then some 0 else bo (fun i => some (i + 1)) (ixOf l n) := (rfl)
@[simp] theorem nmV_ptr (k n o : Nat) : nmV (k + 1) (.pointer (some ⟨n, o, none⟩)) = [n] := (rfl)
@[simp] theorem nmV_sl (k n o a b : Nat) : nmV (k + 1) (.slice (some ⟨n, o, none⟩) a b) = [n] := (rfl)
@[simp] theorem nmV_agg (k : Nat) (cs : Array Value) : nmV (k + 1) (.agg cs) = cs.toList.flatMap (nmV k) := (rfl)
@[simp] theorem nmV_tuple (k : Nat) (cs : Array Value) : nmV (k + 1) (.tuple cs) = cs.toList.flatMap (nmV k) := (rfl)
@[simp] theorem nmV_func (k : Nat) (f : Fn) (a b : Array Value) : nmV (k + 1) (.func f a b) = a.toList.flatMap (nmV k) ++ b.toList.flatMap (nmV k) := (rfl)
@[simp] theorem nmV_int (k : Nat) (q : IntKind) (n : Int) : nmV (k + 1) (.int q n) = [] := (rfl)
@[simp] theorem nmV_bool (k : Nat) (b : Bool) : nmV (k + 1) (.bool b) = [] := (rfl)
@[simp] theorem nmV_str (k : Nat) (s : ByteArray) : nmV (k + 1) (.string s) = [] := (rfl)
@[simp] theorem nmV_iface (k n : Nat) (v : Value) : nmV (k + 1) (.iface n v) = [] := (rfl)
@[simp] theorem nmV_nf (k : Nat) : nmV (k + 1) .nilFunc = [] := (rfl)
@[simp] theorem nmV_pn (k : Nat) : nmV (k + 1) (.pointer none) = [] := (rfl)
@[simp] theorem nmV_sn (k a b : Nat) : nmV (k + 1) (.slice none a b) = [] := (rfl)
@[simp] theorem reach_nil (k : Nat) (m : Mem) (acc : List Nat) : reachF (k + 1) m [] acc = some acc := (rfl)
@[simp] theorem reach_cons (k : Nat) (m : Mem) (n : Nat) (r acc : List Nat) : reachF (k + 1) m (n :: r) acc = if acc.contains n = true then reachF k m r acc else match m[n]? with
    | some b => reachF k m (r ++ nmB b) (acc ++ [n])
    | none => none := (rfl)
@[simp] theorem nmB_eq (c : List Value) (e : Nat) (o l : Bool) : nmB ⟨c, e, o, l⟩ = if c.all inert = true then [] else if l = true then c.flatMap (nmV 8) else [] := (rfl)
@[simp] theorem locB_eq (acc : List Nat) (c : List Value) (e : Nat) (o l : Bool) : locB acc ⟨c, e, o, l⟩ = if c.all inert = true then some ⟨c, e, o, l⟩ else if l = true then bo (fun cs => some ⟨cs, e, o, l⟩) (mapO (rnV 8 inert (ixOf acc)) c) else some ⟨[], e, o, l⟩ := (rfl)
@[simp] theorem locM_nil (m : Mem) (acc : List Nat) : locM m acc [] = some [] := (rfl)
@[simp] theorem locM_cons (m : Mem) (acc : List Nat) (n : Nat) (r : List Nat) : locM m acc (n :: r) = match m[n]? with
    | some b => bo (fun b0 => bo (fun bs => some (b0 :: bs)) (locM m acc r)) (locB acc b)
    | none => none := (rfl)
@[simp] theorem preB_zero (i : Nat) (l : List Nat) : preB i 0 l = true := (by cases l <;> rfl)
@[simp] theorem preB_succ (i k a : Nat) (l : List Nat) : preB i (k + 1) (a :: l) = (a == i && preB (i + 1) k l) := (rfl)
@[simp] theorem entOk_zero (m : Mem) (pv : List Value) : entOk 0 m pv = true := (rfl)
@[simp] theorem range_lit (n : Nat) : List.range (n + 1) = List.range n ++ [n] := List.range_succ
@[simp] theorem entOk_succ (k : Nat) (m : Mem) (pv : List Value) : entOk (k + 1) m pv = (entOk k m pv && ((match m[k]? with
  | some b => b.cells.all inert
  | none => false) || pv.any (isPtr k))) := by
  unfold entOk
  rw [List.range_succ, List.all_append]
  simp only [List.all_cons, List.all_nil, Bool.and_true]
  rfl
@[simp] theorem isPtr_ptr (n b o : Nat) : isPtr n (.pointer (some ⟨b, o, none⟩)) = (b == n) := (rfl)
@[simp] theorem isPtr_int (n : Nat) (q : IntKind) (x : Int) : isPtr n (.int q x) = false := (rfl)
@[simp] theorem isPtr_bool (n : Nat) (x : Bool) : isPtr n (.bool x) = false := (rfl)
@[simp] theorem isPtr_sl (n : Nat) (p : Option Addr) (a b : Nat) : isPtr n (.slice p a b) = false := (rfl)
@[simp] theorem isPtr_agg (n : Nat) (x : Array Value) : isPtr n (.agg x) = false := (rfl)
@[simp] theorem isPtr_iface (n a : Nat) (x : Value) : isPtr n (.iface a x) = false := (rfl)
@[simp] theorem isPtr_func (n : Nat) (f : Fn) (a b : Array Value) : isPtr n (.func f a b) = false := (rfl)
theorem cutK_eq (k : Nat) (m : Mem) (pv vs : List Value) (J : List Value → Mem → Option VM) : cutK k m pv vs J = bo (fun acc => if preB 0 k acc = true ∧ (entOk k m pv || entC k m) = true then
    bo (fun vs0 => bo (fun m0 => J vs0 m0) (locM m acc acc)) (mapO (rnV 8 inert (ixOf acc)) vs) else none) (reachF 4194304 m (List.range k ++ vs.flatMap (nmV 8)) []) := (rfl)
theorem retK_eq (k : Nat) (m : Mem) (pv : List Value) (v : Value) : retK k m pv v = bo (fun acc => if preB 0 k acc = true ∧ (entOk k m pv || entC k m) = true then
    bo (fun v0 => bo (fun m0 => some (v0, m0)) (locM m acc acc)) (rnV 8 inert (ixOf acc) v) else none) (reachF 4194304 m (List.range k ++ nmV 8 v) []) := (rfl)
@[simp] theorem bk_lt (acc : List Nat) (N k n : Nat) : bk acc N k n = if n < acc.length then acc[n]? else if n < k then some (N + (n - acc.length)) else none := (rfl)
@[simp] theorem setAll_cons (m : Mem) (n : Nat) (ns : List Nat) (b : Blk) (bs : List Blk) : setAll m (n :: ns) (b :: bs) = setAll (m.set n b) ns bs := (rfl)
@[simp] theorem setAll_nil (m : Mem) (bs : List Blk) : setAll m [] bs = m := by cases bs <;> rfl
@[simp] theorem bkB_eq (π : Nat → Option Nat) (c : List Value) (e : Nat) (o l : Bool) : bkB π ⟨c, e, o, l⟩ = if c.all inert = true then some ⟨c, e, o, l⟩ else if l = true then bo (fun cs => some ⟨cs, e, o, l⟩) (mapO (rnV 8 inert π) c) else some ⟨[], e, o, l⟩ := (rfl)
@[simp] theorem shB_eq (N k : Nat) (c : List Value) (e : Nat) (o l : Bool) : shB N k ⟨c, e, o, l⟩ = if l = true ∧ o = true then (if c.all hard = true then some ⟨c, e, o, l⟩ else bo (fun cs => some ⟨cs, e, o, l⟩) (mapO (rnV 8 hard (sft N k)) c)) else none := (rfl)
@[simp] theorem sft_eq (N k n : Nat) : sft N k n = if n < k then some (n + N) else none := (rfl)
@[simp] theorem fz_agg (k : Nat) (m : Mem) (cs : Array Value) : fz (k + 1) m (.agg cs) = bo (fun xs => some (.agg xs.toArray)) (mapO (fz k m) cs.toList) := (rfl)
@[simp] theorem fz_nil (k : Nat) (m : Mem) : fz (k + 1) m (.slice none 0 0) = some (roS 0 []) := (rfl)
@[simp] theorem fz_pn (k : Nat) (m : Mem) : fz (k + 1) m (.pointer none) = some (.pointer none) := (rfl)
@[simp] theorem fz_bool (k : Nat) (m : Mem) (b : Bool) : fz (k + 1) m (.bool b) = some (.bool b) := (rfl)
@[simp] theorem fz_int (k : Nat) (m : Mem) (q : IntKind) (n : Int) : fz (k + 1) m (.int q n) = some (.int q n) := (rfl)
@[simp] theorem fz_str (k : Nat) (m : Mem) (s : ByteArray) : fz (k + 1) m (.string s) = some (.string s) := (rfl)
@[simp] theorem fz_nf (k : Nat) (m : Mem) : fz (k + 1) m .nilFunc = some .nilFunc := (rfl)
@[simp] theorem fz_iface (k : Nat) (m : Mem) (n : Nat) (x : Value) : fz (k + 1) m (.iface n x) = some (.iface n x) := (rfl)
@[simp] theorem fz_func (k : Nat) (m : Mem) (f : Fn) : fz (k + 1) m (.func f #[] #[]) = some (.func f #[] #[]) := (rfl)
@[simp] theorem fz_ptr (k : Nat) (m : Mem) (n o : Nat) : fz (k + 1) m (.pointer (some ⟨n, o, none⟩)) = match m[n]? with
      | some b => if b.live = true ∧ o ≤ b.cells.length then bo (fun xs => some (roP xs)) (mapO (fz k m) (b.cells.drop o)) else none
      | none => none := (rfl)
theorem fz_sl (k : Nat) (m : Mem) (n o len c : Nat) : fz (k + 1) m (.slice (some ⟨n, o, none⟩) len c) = if len = 0 then some (roS 0 []) else match m[n]? with
      | some b => if b.live = true then bo (fun cs => bo (fun xs => some (roS len xs)) (mapO (fz k m) cs)) (rd m n o (len * b.es)) else none
      | none => none := (rfl)
@[simp] theorem fcall_eq (X : List Value → Mem → Option VM) (args : List Value) (m : Mem) : fcall X args m = bo (fun as => bo (fun r => bo (fun v => bo (fun bs => some (v, m ++ bs)) (mapB (shB m.length r.2.length) r.2)) (rnV 8 hard (sft m.length r.2.length) r.1)) (X as [])) (mapO (fz 64 m) args) := (rfl)
@[simp] theorem rcall_eq (X : List Value → Mem → Option VM) (args : List Value) (m : Mem) : rcall X args m = bo (fun acc => bo (fun as => bo (fun m0 => bo (fun r =>
    if acc.length ≤ r.2.length then
      bo (fun v => bo (fun bs => some (v, setAll m acc (bs.take acc.length) ++ bs.drop acc.length)) (mapB (bkB (bk acc m.length r.2.length)) r.2)) (rnV 8 inert (bk acc m.length r.2.length) r.1)
    else none) (X as m0)) (locM m acc acc)) (mapO (rnV 8 inert (ixOf acc)) args)) (reachF 4194304 m (args.flatMap (nmV 8)) []) := (rfl)
@[simp] theorem icall_eq (X : List Value → Mem → Option VM) (args : List Value) (m : Mem) : icall X args m = if args.all scal2 = true then bo (fun r => bo (fun v => some (v, m)) (fz 64 r.2 r.1)) (X args []) else none := (rfl)
@[simp] theorem scal_int (k : IntKind) (n : Int) : scal (.int k n) = true := (rfl)
@[simp] theorem scal_bool (b : Bool) : scal (.bool b) = true := (rfl)
@[simp] theorem scal_str (s : ByteArray) : scal (.string s) = true := (rfl)
@[simp] theorem scal_if (n : Nat) (v : Value) : scal (.iface n v) = true := (rfl)
@[simp] theorem scal2_int (k : IntKind) (n : Int) : scal2 (.int k n) = true := (rfl)
@[simp] theorem scal2_bool (b : Bool) : scal2 (.bool b) = true := (rfl)
@[simp] theorem scal2_str (s : ByteArray) : scal2 (.string s) = true := (rfl)
@[simp] theorem scal2_if (n : Nat) (v : Value) : scal2 (.iface n v) = true := (rfl)
@[simp] theorem scal2_agg (cs : Array Value) : scal2 (.agg cs) = cs.toList.all scal := (rfl)
theorem mkX_eq (m : Mem) (sz bytes : Nat) (zero : List Value) {l c : Int} (h0 : 0 ≤ l) (h1 : l ≤ c) (h2 : c * bytes ≤ 281474976710656) (h3 : c ≤ 281474976710656) : mkX m sz bytes zero (.int .i64 l) (.int .i64 c) = some (.slice (some ⟨m.length, 0, none⟩) l.toNat c.toNat, m ++ [⟨(List.replicate c.toNat zero).flatten, sz, true, true⟩]) := if_pos ⟨h0, h1, h2, h3⟩
@[simp] theorem mkX_nat (m : Mem) (sz bytes : Nat) (zero : List Value) (n : Nat) (h : n < 1000000000) (hb : bytes ≤ 200000) : mkX m sz bytes zero (.int .i64 n) (.int .i64 n) = some (.slice (some ⟨m.length, 0, none⟩) n n, m ++ [⟨(List.replicate n zero).flatten, sz, true, true⟩]) := by
  have : n * bytes ≤ 1000000000 * 200000 := Nat.mul_le_mul (by omega) hb
  rw [mkX_eq m sz bytes zero (l := n) (c := n) (by omega) (by omega) (by rw [← Int.natCast_mul]; omega) (by omega)]
  simp
end Go.Ab
namespace Go.Ab
structure Enc (α : Type) where
  sz : Nat
  f : α → List Value
  pos : 0 < sz
  len : ∀ x, (f x).length = sz
  leaf : ∀ x, (f x).all scal = true
def Enc.Hard {α : Type} (E : Enc α) : Prop := ∀ x, (E.f x).all hard = true
section
variable {α : Type} (E : Enc α)
def cellsE (l : List α) : List Value := l.flatMap E.f
def frS (l : List α) : Value := roS l.length (cellsE E l)
def ownB (l : List α) : Blk := ⟨cellsE E l, E.sz, true, true⟩
def gt [Inhabited α] (l : List α) (i : Nat) : α := l.getD i default
theorem cellsE_cons (x : α) (l : List α) : cellsE E (x :: l) = E.f x ++ cellsE E l := rfl
theorem cellsE_append (l r : List α) : cellsE E (l ++ r) = cellsE E l ++ cellsE E r := by simp [cellsE]
@[simp] theorem cellsE_len (l : List α) : (cellsE E l).length = l.length * E.sz := by
  induction l with
  | nil => simp [cellsE]
  | cons x l ih =>
    rw [cellsE_cons, List.length_append, ih, E.len, List.length_cons, Nat.succ_mul, Nat.add_comm]
theorem cellsE_all (l : List α) : (cellsE E l).all scal = true := by
  induction l with
  | nil => rfl
  | cons x l ih => rw [cellsE_cons, List.all_append, E.leaf, ih]; rfl
theorem all_of {p : Value → Bool} (h : ∀ v, scal v = true → p v = true) {l : List Value} (hl : l.all scal = true) : l.all p = true := by
  rw [List.all_eq_true] at hl ⊢
  exact fun x hx => h x (hl x hx)
theorem scal_inert (v : Value) (h : scal v = true) : inert v = true := by cases v <;> simp [scal] at h <;> rfl
theorem scal_flat (v : Value) (h : scal v = true) : flat v = true := by cases v <;> simp [scal] at h <;> rfl
@[simp] theorem cellsE_inert (l : List α) : (cellsE E l).all inert = true := all_of scal_inert (cellsE_all E l)
@[simp] theorem cellsE_flat (l : List α) : (cellsE E l).all flat = true := all_of scal_flat (cellsE_all E l)
@[simp] theorem cellsE_inert' (l : List α) : (∀ x ∈ cellsE E l, inert x = true) ↔ True := by
  have := cellsE_inert E l
  rw [List.all_eq_true] at this
  exact ⟨fun _ => trivial, fun _ => this⟩
@[simp] theorem cellsE_flat' (l : List α) : (∀ x ∈ cellsE E l, flat x = true) ↔ True := by
  have := cellsE_flat E l
  rw [List.all_eq_true] at this
  exact ⟨fun _ => trivial, fun _ => this⟩
theorem cellsE_hard (h : E.Hard) (l : List α) : (cellsE E l).all hard = true := by
  induction l with
  | nil => rfl
  | cons x l ih => rw [cellsE_cons, List.all_append, h x, ih]; rfl
theorem cellsE_drop (l : List α) (i : Nat) : (cellsE E l).drop (i * E.sz) = cellsE E (l.drop i) := by
  induction i generalizing l with
  | zero => simp
  | succ i ih =>
    cases l with
    | nil => simp [cellsE]
    | cons x l =>
      rw [cellsE_cons, List.drop_succ_cons, ← ih l, show (i + 1) * E.sz = E.sz + i * E.sz by rw [Nat.succ_mul, Nat.add_comm], ← List.drop_drop]
      congr 1
      rw [List.drop_append_of_le_length (by rw [E.len]; exact Nat.le_refl _), List.drop_of_length_le (by rw [E.len]; exact Nat.le_refl _), List.nil_append]
theorem cellsE_take (l : List α) (i : Nat) : (cellsE E l).take (i * E.sz) = cellsE E (l.take i) := by
  induction i generalizing l with
  | zero => simp [cellsE]
  | succ i ih =>
    cases l with
    | nil => simp [cellsE]
    | cons x l =>
      rw [cellsE_cons, List.take_succ_cons, cellsE_cons, ← ih l, show (i + 1) * E.sz = E.sz + i * E.sz by rw [Nat.succ_mul, Nat.add_comm], List.take_append, E.len, Nat.add_sub_cancel_left, List.take_of_length_le (by rw [E.len]; omega)]
theorem gt_lt [Inhabited α] {l : List α} {i : Nat} (h : i < l.length) : gt l i = l[i] := by simp [gt, h]
@[simp] theorem gt_mid [Inhabited α] (p : List α) (x : α) (r : List α) : gt (p ++ x :: r) p.length = x := by simp [gt]
theorem elem_at [Inhabited α] {l : List α} {i : Nat} (h : i < l.length) : ((cellsE E l).drop (i * E.sz)).take E.sz = E.f (gt l i) := by
  rw [cellsE_drop, List.drop_eq_getElem_cons h, cellsE_cons, List.take_append, E.len, Nat.sub_self, List.take_zero, List.append_nil, List.take_of_length_le (by rw [E.len]; exact Nat.le_refl _), gt_lt h]
theorem cell_at [Inhabited α] {l : List α} {i o : Nat} (h : i < l.length) (ho : o < E.sz) : (cellsE E l)[i * E.sz + o]? = (E.f (gt l i))[o]? := by
  rw [← elem_at E h, List.getElem?_take, if_pos ho, List.getElem?_drop]
@[simp] theorem ownB_cells (l : List α) : (ownB E l).cells = cellsE E l := (rfl)
@[simp] theorem ownB_es (l : List α) : (ownB E l).es = E.sz := (rfl)
@[simp] theorem ownB_own (l : List α) : (ownB E l).own = true := (rfl)
@[simp] theorem ownB_live (l : List α) : (ownB E l).live = true := (rfl)
@[simp] theorem nmB_own (l : List α) : nmB (ownB E l) = [] := by unfold nmB; simp
@[simp] theorem locB_own (acc : List Nat) (l : List α) : locB acc (ownB E l) = some (ownB E l) := by unfold locB; simp
@[simp] theorem bkB_own (π : Nat → Option Nat) (l : List α) : bkB π (ownB E l) = some (ownB E l) := by unfold bkB; simp
theorem shB_own (h : E.Hard) (N k : Nat) (l : List α) : shB N k (ownB E l) = some (ownB E l) := by
  unfold shB
  simp only [ownB_live, ownB_own, ownB_cells, cellsE_hard E h, and_self, if_true]
@[simp] theorem lt_mid (a b : Nat) : ((a : Int) < (a : Int) + ((b : Int) + 1)) ↔ True := ⟨fun _ => trivial, fun _ => by omega⟩
@[simp] theorem lt_self (a : Int) : (a < a) ↔ False := ⟨fun h => by omega, fun h => h.elim⟩
theorem wrap_next {n : Nat} (h : n < 4611686018427387904) : IntKind.i64.wrap ((n : Int) + 1) = (n : Int) + 1 := wrap64 (by omega) (by omega)
theorem ixa_mid {α : Type} [Inhabited α] (E : Enc α) {sz : Nat} (hs : sz = E.sz) (k : IntKind) (p : List α) (x : α) (r : List α) : ixaX sz (frS E (p ++ x :: r)) (.int k p.length) = some (roP (E.f x)) := by
  have h : ixaX sz (frS E (p ++ x :: r)) (.int k p.length) = some (roP (E.f (gt (p ++ x :: r) (p.length : Int).toNat))) := by
    subst hs
    show (if (0 : Int) ≤ (p.length : Int) ∧ (p.length : Int) < ((p ++ x :: r).length : Int) then some (roP (((cellsE E (p ++ x :: r)).drop ((p.length : Int).toNat * E.sz)).take E.sz)) else none) = _
    rw [if_pos ⟨by omega, by simp⟩, elem_at E (by simp)]
  rw [h, Int.toNat_natCast, gt_mid]
theorem lay_app : ∀ (a c : List Value) (o : Nat) (vs : List Value), lay (a ++ c) (a.length + o) vs = a ++ lay c o vs
  | [], c, o, vs => by simp
  | x :: a, c, o, [] => by simp
  | x :: a, c, o, v :: vs => by
    rw [List.cons_append, List.length_cons, show a.length + 1 + o = (a.length + o) + 1 by omega, lay, lay_app a c o (v :: vs)]
    rfl
theorem lay_skip (p r : List α) (o : Nat) (vs : List Value) : lay (cellsE E (p ++ r)) (p.length * E.sz + o) vs = cellsE E p ++ lay (cellsE E r) o vs := by
  have := lay_app (cellsE E p) (cellsE E r) o vs
  rw [cellsE_len] at this
  rw [cellsE_append]
  exact this
theorem lay_pre : ∀ (a b c : List Value), a.length = b.length → lay (a ++ c) 0 b = b ++ c
  | [], [], c, _ => by rw [lay_nil]
  | x :: a, y :: b, c, h => by
    show y :: lay (a ++ c) 0 b = y :: (b ++ c)
    rw [lay_pre a b c (by simpa using h)]
  | [], _ :: _, _, h => by simp at h
  | _ :: _, [], _, h => by simp at h
theorem lay_mid (p : List α) (z : α) (zs : List α) (x : α) : lay (cellsE E (p ++ z :: zs)) (p.length * E.sz) (E.f x) = cellsE E (p ++ x :: zs) := by
  have := lay_skip E p (z :: zs) 0 (E.f x)
  rw [Nat.add_zero] at this
  rw [this, cellsE_cons, lay_pre _ _ _ (by rw [E.len, E.len]), cellsE_append, cellsE_cons]
@[simp] theorem mk_own (l : List α) (s : Nat) (hs : s = E.sz) : (⟨cellsE E l, s, true, true⟩ : Blk) = ownB E l := by subst hs; rfl
theorem flat_rep (n : Nat) (z : α) : (List.replicate n (E.f z)).flatten = cellsE E (List.replicate n z) := by
  induction n with
  | zero => rfl
  | succ n ih => rw [List.replicate_succ, List.replicate_succ, List.flatten_cons, ih, cellsE_cons]
@[simp] theorem ixa_slmid {sz : Nat} (k : IntKind) (n o a b c : Nat) : ixaX sz (.slice (some ⟨n, o, none⟩) (a + (b + 1)) c) (.int k (a : Int)) = some (.pointer (some ⟨n, o + a * sz, none⟩)) := by
  show (if (0 : Int) ≤ (a : Int) ∧ (a : Int) < ((a + (b + 1) : Nat) : Int) then some (Value.pointer (some ⟨n, o + (a : Int).toNat * sz, none⟩)) else none) = _
  rw [if_pos ⟨by omega, by omega⟩, Int.toNat_natCast]
@[simp] theorem fz_frS (k : Nat) (m : Mem) (l : List α) : fz (k + 1) m (frS E l) = some (frS E l) := (rfl)
@[simp] theorem lenX_frS (l : List α) : lenX (frS E l) = some (.int .i64 l.length) := (rfl)
@[simp] theorem inert_frS (l : List α) : inert (frS E l) = true := (rfl)
@[simp] theorem rn_frS (k : Nat) (π : Nat → Option Nat) (l : List α) : rnV (k + 1) inert π (frS E l) = some (frS E l) := rnV_p rfl
@[simp] theorem flat_frS (l : List α) : flat (frS E l) = true := (rfl)
@[simp] theorem scal_frS (l : List α) : scal (frS E l) = true := (rfl)
@[simp] theorem scal2_frS (l : List α) : scal2 (frS E l) = true := (rfl)
@[simp] theorem cells_frS (l : List α) : (frS E l).cells = #[frS E l] := (rfl)
@[simp] theorem nmV_frS (k : Nat) (l : List α) : nmV (k + 1) (frS E l) = [] := (rfl)
@[simp] theorem isPtr_frS (n : Nat) (l : List α) : isPtr n (frS E l) = false := (rfl)
@[simp] theorem rdN_frS (l : List α) : rdN (frS E l) = none := (rfl)
noncomputable def fzO (k : Nat) (m : Mem) (b : Option Blk) (o len : Nat) : Option Value :=
  if len = 0 then some (roS 0 []) else match b with
      | some b => if b.live = true then ob (rdB b o (len * b.es)) fun cs => ob (mapO (fz k m) cs) fun xs => some (roS len xs) else none
      | none => none
where rdB (b : Blk) (o n : Nat) : Option (List Value) := if n = 0 then some [] else if b.live = true ∧ o + n ≤ b.cells.length then some ((b.cells.drop o).take n) else none
@[simp] theorem fz_slO (k : Nat) (m : Mem) (n o len c : Nat) : fz (k + 1) m (.slice (some ⟨n, o, none⟩) len c) = fzO k m (m[n]?) o len := by
  rw [fz_sl]
  unfold fzO fzO.rdB rd
  split
  · rfl
  · cases m[n]? with
    | none => rfl
    | some b => rfl
theorem mapO_fixd {k : Nat} {m : Mem} : ∀ {l : List Value}, l.all scal = true → mapO (fz (k + 1) m) l = some l
  | [], _ => rfl
  | v :: l, h => by
    simp only [List.all_cons, Bool.and_eq_true] at h
    have hv : fz (k + 1) m v = some v := by
      have := h.1
      cases v <;> simp [scal] at this <;> rfl
    rw [mapO_cons, hv, bo_some, mapO_fixd h.2]
    rfl
theorem fzO_part (k : Nat) (m : Mem) {l : List α} {o a len : Nat} (ho : o = a * E.sz) (h : a + len ≤ l.length) : fzO (k + 1) m (some (ownB E l)) o len = some (frS E ((l.drop a).take len)) := by
  subst ho
  unfold fzO
  split
  · rename_i h0; subst h0; simp [frS, cellsE]
  · rename_i h0
    have hp := Nat.mul_pos (Nat.pos_of_ne_zero h0) E.pos
    have hle : a * E.sz + len * E.sz ≤ l.length * E.sz := by rw [← Nat.add_mul]; exact Nat.mul_le_mul_right _ h
    simp only [ownB_live, if_true, ownB_es, fzO.rdB, ownB_cells]
    rw [if_neg (by omega), if_pos ⟨trivial, by rw [cellsE_len]; exact hle⟩, ob_some, cellsE_drop, cellsE_take, mapO_fixd (cellsE_all E _), ob_some]
    unfold frS
    rw [show ((l.drop a).take len).length = len by rw [List.length_take, List.length_drop]; omega]
@[simp] theorem fzO_own (k : Nat) (m : Mem) (l : List α) : fzO (k + 1) m (some (ownB E l)) 0 l.length = some (frS E l) := by
  rw [fzO_part E k m (a := 0) (by simp) (by simp)]
  simp
@[simp] theorem bndX_none (d : Nat) : bndX none d = some d := (rfl)
theorem sl_frS (m : Mem) {sz : Nat} (hs : sz = E.sz) {l : List α} {lo hi : Option Value} {a b : Nat} (ha : bndX lo 0 = some a) (hb : bndX hi l.length = some b) (h : a ≤ b) (h2 : b ≤ l.length) : slX m sz (frS E l) lo hi = some (frS E ((l.drop a).take (b - a))) := by
  subst hs
  show (ob (bndX lo 0) fun l' => ob (bndX hi l.length) fun h' => if l' ≤ h' ∧ h' ≤ l.length then some (roS (h' - l') (((cellsE E l).drop (l' * E.sz)).take ((h' - l') * E.sz))) else none) = _
  rw [ha, hb, ob_some, ob_some, if_pos ⟨h, h2⟩, cellsE_drop, cellsE_take]
  unfold frS
  rw [show ((l.drop a).take (b - a)).length = b - a by rw [List.length_take, List.length_drop]; omega]
end
noncomputable def apB (m : Mem) (b : Option Blk) (n o len sz : Nat) (cs : List Value) (k : Nat) : Option VM :=
  match b with
  | some b => if b.live = true ∧ b.own = true ∧ b.es = sz then ob (fzO.rdB b o (len * sz)) fun old => some (.slice (some ⟨m.length, 0, none⟩) (len + k) (len + k), m.set n { b with live := false } ++ [⟨old ++ cs, sz, true, true⟩]) else none
  | none => none
theorem apL_frS {α : Type} {E : Enc α} {m : Mem} {sz bytes n o len c : Nat} {l : List α} (hs : sz = E.sz) (hk : len + l.length < 1000000000) (hb : bytes ≤ 100000) : apL m sz bytes (.slice (some ⟨n, o, none⟩) len c) (frS E l) = apB m m[n]? n o len sz (cellsE E l) l.length := by
  have h1 : (cellsE E l).toArray.size = l.length * sz := by subst hs; simp
  have h2 : (len + l.length) * bytes ≤ 140737488355328 := Nat.le_trans (Nat.mul_le_mul (Nat.le_of_lt hk) hb) (by omega)
  show (if (cellsE E l).toArray.size = l.length * sz then appendIn m sz bytes (.slice (some ⟨n, o, none⟩) len c) (cellsE E l) l.length else none) = _
  rw [if_pos h1]
  unfold appendIn apB
  simp only
  cases hm : m[n]? with
  | none => rfl
  | some b =>
    simp only
    by_cases h : b.live = true ∧ b.own = true ∧ b.es = sz
    · rw [if_pos ⟨h.1, h.2.1, h.2.2, h2, by omega⟩, if_pos h]
      have hr : rd m n o (len * sz) = fzO.rdB b o (len * sz) := by
        unfold rd fzO.rdB
        split
        · rfl
        · rw [hm]
      rw [hr]
      cases fzO.rdB b o (len * sz) <;> rfl
    · rw [if_neg (fun q => h ⟨q.1, q.2.1, q.2.2.1⟩), if_neg h]
@[simp] theorem apB_lit (m : Mem) (cells : List Value) (es n o len sz : Nat) (cs : List Value) (k : Nat) : apB m (some ⟨cells, es, true, true⟩) n o len sz cs k = if es = sz then bo (fun old => some (.slice (some ⟨m.length, 0, none⟩) (len + k) (len + k), m.set n ⟨cells, es, true, false⟩ ++ [⟨old ++ cs, sz, true, true⟩])) (fzO.rdB ⟨cells, es, true, true⟩ o (len * sz)) else none := by
  unfold apB
  simp only [true_and]
  rfl
@[simp] theorem rdB_zero (b : Blk) (o : Nat) : fzO.rdB b o 0 = some [] := (rfl)
theorem apB_own {α : Type} {E : Enc α} {m : Mem} {l : List α} {n sz : Nat} {cs : List Value} {k : Nat} (hs : sz = E.sz) : apB m (some (ownB E l)) n 0 l.length sz cs k = some (.slice (some ⟨m.length, 0, none⟩) (l.length + k) (l.length + k), m.set n ⟨cellsE E l, E.sz, true, false⟩ ++ [⟨cellsE E l ++ cs, sz, true, true⟩]) := by
  subst hs
  unfold apB
  simp only [ownB_live, ownB_own, ownB_es, and_self, if_true]
  have : fzO.rdB (ownB E l) 0 (l.length * E.sz) = some (cellsE E l) := by
    unfold fzO.rdB
    split
    · rename_i h
      have : cellsE E l = [] := List.eq_nil_of_length_eq_zero (by rw [cellsE_len]; exact h)
      rw [this]
    · rw [if_pos ⟨rfl, by rw [ownB_cells, cellsE_len]; omega⟩, List.drop_zero, List.take_of_length_le (by rw [ownB_cells, cellsE_len]; exact Nat.le_refl _)]
      rfl
  rw [this]
  rfl
@[simp] theorem mk_own2 {α : Type} (E : Enc α) (l r : List α) (s : Nat) (hs : s = E.sz) : (⟨cellsE E l ++ cellsE E r, s, true, true⟩ : Blk) = ownB E (l ++ r) := by
  rw [← cellsE_append]; exact mk_own E _ s hs
noncomputable def rdM (b : Option Blk) (o n : Nat) : Option (List Value) := if n = 0 then some [] else match b with
  | some b => fzO.rdB b o n
  | none => none
theorem rd_rdM (m : Mem) (n o k : Nat) : rd m n o k = rdM m[n]? o k := by
  unfold rd rdM
  split
  · rfl
  · rename_i h
    cases m[n]? with
    | none => rfl
    | some b => simp only [fzO.rdB, if_neg h]
theorem apL_sl {m : Mem} {sz bytes n o len c n2 o2 len2 c2 : Nat} (hk : len + len2 < 1000000000) (hb : bytes ≤ 100000) : apL m sz bytes (.slice (some ⟨n, o, none⟩) len c) (.slice (some ⟨n2, o2, none⟩) len2 c2) = bo (fun cs => apB m m[n]? n o len sz cs len2) (rdM m[n2]? o2 (len2 * sz)) := by
  have h2 : (len + len2) * bytes ≤ 140737488355328 := Nat.le_trans (Nat.mul_le_mul (Nat.le_of_lt hk) hb) (by omega)
  show (ob (rd m n2 o2 (len2 * sz)) fun cs => appendIn m sz bytes (.slice (some ⟨n, o, none⟩) len c) cs len2) = _
  rw [rd_rdM]
  cases rdM m[n2]? o2 (len2 * sz) with
  | none => rfl
  | some cs =>
    rw [ob_some, bo_some]
    unfold appendIn apB
    simp only
    cases hm : m[n]? with
    | none => rfl
    | some b =>
      simp only
      by_cases h : b.live = true ∧ b.own = true ∧ b.es = sz
      · rw [if_pos ⟨h.1, h.2.1, h.2.2, h2, by omega⟩, if_pos h]
        have hr : rd m n o (len * sz) = fzO.rdB b o (len * sz) := by
          unfold rd fzO.rdB
          split
          · rfl
          · rw [hm]
        rw [hr]
        cases fzO.rdB b o (len * sz) <;> rfl
      · rw [if_neg (fun q => h ⟨q.1, q.2.1, q.2.2.1⟩), if_neg h]
theorem rdB_own {α : Type} (E : Enc α) (l : List α) : fzO.rdB (ownB E l) 0 (l.length * E.sz) = some (cellsE E l) := by
  unfold fzO.rdB
  split
  · rename_i h
    have : cellsE E l = [] := List.eq_nil_of_length_eq_zero (by rw [cellsE_len]; exact h)
    rw [this]
  · rw [if_pos ⟨rfl, by rw [ownB_cells, cellsE_len]; omega⟩, List.drop_zero, List.take_of_length_le (by rw [ownB_cells, cellsE_len]; exact Nat.le_refl _)]
    rfl
@[simp] theorem rdM_own {α : Type} (E : Enc α) (l : List α) (n : Nat) (h : n = l.length * E.sz) : rdM (some (ownB E l)) 0 n = some (cellsE E l) := by
  subst h
  unfold rdM
  split
  · rename_i h
    have : cellsE E l = [] := List.eq_nil_of_length_eq_zero (by rw [cellsE_len]; exact h)
    rw [this]
  · exact rdB_own E l
def eI (k : IntKind) : Enc Int := ⟨1, fun n => [.int k n], Nat.one_pos, fun _ => rfl, fun _ => rfl⟩
def eB : Enc Bool := ⟨1, fun n => [.bool n], Nat.one_pos, fun _ => rfl, fun _ => rfl⟩
@[simp] theorem eI_f (k : IntKind) (n : Int) : (eI k).f n = [.int k n] := (rfl)
@[simp] theorem eI_sz (k : IntKind) : (eI k).sz = 1 := (rfl)
@[simp] theorem eB_f (n : Bool) : eB.f n = [.bool n] := (rfl)
@[simp] theorem eB_sz : eB.sz = 1 := (rfl)
theorem eI_hard (k : IntKind) : (eI k).Hard := fun _ => rfl
theorem eB_hard : eB.Hard := fun _ => rfl
theorem cellsE_ints (k : IntKind) (l : List Int) : cellsE (eI k) l = l.map (.int k) := by
  induction l with
  | nil => rfl
  | cons x l ih => rw [cellsE_cons, ih]; rfl
noncomputable def cvB (b : Option Blk) (o n : Nat) : Option Value := bo (fun cs => bo (fun l => some (.string ⟨l.toArray⟩)) (bytesOf cs)) (rdM b o n)
@[simp] theorem cvBS_sl (m : Mem) (n o len c : Nat) : cvBS m (.slice (some ⟨n, o, none⟩) len c) = cvB m[n]? o len := by
  show (ob (rd m n o len) fun cs => ob (bytesOf cs) fun l => some (Value.string ⟨l.toArray⟩)) = _
  rw [rd_rdM]
  rfl
@[simp] theorem cvB_own (l : List Int) (n : Nat) (h : n = l.length) : cvB (some (ownB (eI .u8) l)) 0 n = some (.string (bstr l)) := by
  unfold cvB
  rw [rdM_own _ _ _ (by rw [h]; simp), bo_some, cellsE_ints, bytesOf_u8]
  rfl
theorem and_mask {a : Int} (n : Nat) (h0 : 0 ≤ a) (h1 : a < 4611686018427387904) (hn : n ≤ 62) : andI .i64 a ((2 ^ n - 1 : Nat) : Int) = a % (2 ^ n : Nat) := by
  unfold andI
  obtain ⟨x, rfl⟩ := Int.eq_ofNat_of_zero_le h0
  have hx : x < 4611686018427387904 := by omega
  have hp : 2 ^ n ≤ 2 ^ 62 := Nat.pow_le_pow_right (by omega) hn
  have e : (BitVec.ofInt IntKind.i64.bits (x : Int) &&& BitVec.ofInt IntKind.i64.bits ((2 ^ n - 1 : Nat) : Int)).toNat = x % 2 ^ n := by
    rw [BitVec.toNat_and, BitVec.ofInt_natCast, BitVec.ofInt_natCast, BitVec.toNat_ofNat, BitVec.toNat_ofNat]
    rw [Nat.mod_eq_of_lt (show x < 2 ^ IntKind.i64.bits from by show x < 2 ^ 64; omega), Nat.mod_eq_of_lt (show 2 ^ n - 1 < 2 ^ IntKind.i64.bits from by show 2 ^ n - 1 < 2 ^ 64; omega), Nat.and_two_pow_sub_one_eq_mod]
  rw [e]
  have := Nat.mod_le x (2 ^ n)
  rw [wrap64 (by omega) (by omega)]
  rw [Int.natCast_emod]
theorem shr_div {a : Int} (n : Nat) (hn : n ≤ 64) : shrI .i64 a (n : Nat) = a / (2 ^ n : Nat) := by
  unfold shrI
  have : min (n : Int).toNat IntKind.i64.bits = n := by show min (n : Int).toNat 64 = n; omega
  rw [this]
  have h := Int.fdiv_eq_ediv_of_nonneg a (b := ((2 ^ n : Nat) : Int)) (Int.natCast_nonneg _)
  rw [← h]
  congr 1
end Go.Ab
namespace Go.Ab
theorem typed_enc {C : Cfg} {t e : Nat} {a : Value} {α : Type} (E : Enc α) {p : α → Prop} (h : Typed C t [a]) (ht : (C.ty t).d = .slice e) (hx : ∀ x, Typed C e x → x.length = (C.ty e).size → ∃ y, x = E.f y ∧ p y) :
    ∃ l : List α, a = frS E l ∧ l.length ≤ maxLen ∧ ∀ y ∈ l, p y := by
  obtain ⟨L, rfl, h1, h2, h3⟩ := typed_slice h ht
  have key : ∀ L : List (List Value), (∀ x ∈ L, ∃ y, x = E.f y ∧ p y) → ∃ l, L.flatten = cellsE E l ∧ l.length = L.length ∧ ∀ y ∈ l, p y := by
    intro L
    induction L with
    | nil => intro _; exact ⟨[], rfl, rfl, fun y hy => by cases hy⟩
    | cons x L ih =>
      intro hL
      obtain ⟨y, rfl, hy⟩ := hL x (by simp)
      obtain ⟨l, e1, e2, e3⟩ := ih (fun z hz => hL z (by simp [hz]))
      refine ⟨y :: l, by rw [List.flatten_cons, e1, cellsE_cons], by simp [e2], fun z hz => ?_⟩
      rw [List.mem_cons] at hz
      rcases hz with rfl | hz
      · exact hy
      · exact e3 z hz
  obtain ⟨l, e1, e2, e3⟩ := key L (fun x hx' => hx x (h2 x hx') (h3 x hx'))
  exact ⟨l, by unfold frS; rw [e1, e2], by omega, e3⟩
theorem fz_law {C : Cfg} {f : FuncId} {X : List Value → Mem → Option VM} (hX : OkX C f X) {as : List Value} (h : X as [] = some (.bool true, [])) (hf : mapO (fz 64 []) as = some as) : Fz C f as (.bool true) :=
  ⟨.bool true, [], [], hX as [] _ _ h .nil (fzL_low hf), rfl⟩
end Go.Ab
namespace Go.Ab
noncomputable def cloneV (sz : Nat) (m : Mem) (y : Value) : Option VM :=
  match y with
  | .iface len (.agg cs) => if len = 0 then some (roS 0 [], m) else if (cs.size = len * sz ∧ len < 1000000000) ∧ cs.toList.all hard = true then some (.slice (some ⟨m.length, 0, none⟩) len len, m ++ [⟨cs.toList, sz, true, true⟩]) else none
  | _ => none
noncomputable def cloneC (sz : Nat) : List Value → Mem → Option VM
  | [x], m => bo (fun y => cloneV sz m y) (fz 64 m x)
  | _, _ => none
@[simp] theorem nlX_eql (v : Value) : nlX .eql v = (nilOf v).map .bool := (rfl)
@[simp] theorem nilOf_f0 : nilOf (.float .f64 0) = some true := (rfl)
@[simp] theorem nilOf_f1 : nilOf (.float .f64 1) = some false := (rfl)
@[simp] theorem nilOf_iface (n : Nat) (cs : Array Value) : nilOf (.iface n (.agg cs)) = if n = 0 then none else some false := (rfl)
@[simp] theorem inert_float (k : FloatKind) (b : Nat) : inert (.float k b) = true := (rfl)
@[simp] theorem cloneC_one (sz : Nat) (x : Value) (m : Mem) : cloneC sz [x] m = bo (fun y => cloneV sz m y) (fz 64 m x) := (rfl)
@[simp] theorem cloneV_nil (sz : Nat) (m : Mem) : cloneV sz m (roS 0 []) = some (roS 0 [], m) := (rfl)
end Go.Ab
namespace Go.Ab
end Go.Ab
