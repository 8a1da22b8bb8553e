/- Part of an own evaluator of Go code on numbered blocks, and of the proof that the machine does what it says; each theorem carries its own conditions. -/
import Derived.Test.YtkoahogalplhhaaAb35
set_option linter.unusedVariables false
set_option linter.unusedSimpArgs false
namespace Go.Ab

/-! ## Structs and lists of lists -/

def cellV (v : Value) (i : Nat) : Value :=
  match v with
  | .agg cs => cs.toList.getD i .nilFunc
  | .iface _ (.tuple cs) => cs.toList.getD i .nilFunc
  | _ => .nilFunc

abbrev bssV (r : List (List Int)) : Value := roS r.length (r.map (intsV .u8))
def bssD (v : Value) : List (List Int) := (cellsS v).map intsD

@[simp] theorem map_intsD (k : IntKind) (r : List (List Int)) : List.map (intsD ∘ intsV k) r = r := by
  conv => rhs; rw [← List.map_id r]
  congr 1
  funext x
  simp
@[simp] theorem bssD_bssV (r : List (List Int)) : bssD (bssV r) = r := by simp [bssD, bssV]
@[simp] theorem cellsS_bssV (r : List (List Int)) : cellsS (bssV r) = r.map (intsV .u8) := by simp [bssV]
@[simp] theorem lenS_bssV (r : List (List Int)) : lenS (bssV r) = r.length := rfl
@[simp] theorem all_fixd_ints (k : IntKind) (r : List (List Int)) : (r.map (intsV k)).all fixd = true := by simp [fixd, intsV, roS]
@[simp] theorem all_inert_ints (k : IntKind) (r : List (List Int)) : (r.map (intsV k)).all inert = true := by simp [inert, intsV, roS]

structure LineT where
  r : List (List Int)
  e : List Int
  lit : Bool
  br : Int

def LineT.cells (l : LineT) : List Value := [bssV l.r, intsV .u8 l.e, .bool l.lit, .int .i64 l.br]
abbrev lineV (l : LineT) : Value := .agg #[bssV l.r, intsV .u8 l.e, .bool l.lit, .int .i64 l.br]
abbrev lineP (l : LineT) : Value := roP [bssV l.r, intsV .u8 l.e, .bool l.lit, .int .i64 l.br]
def lineD (v : Value) : LineT := ⟨bssD (cellV v 0), intsD (cellV v 1), boolOf (cellV v 2), intOf (cellV v 3)⟩
@[simp] theorem line_eta (l : LineT) : (⟨l.r, l.e, l.lit, l.br⟩ : LineT) = l := rfl
@[simp] theorem lineD_lineV (l : LineT) : lineD (lineV l) = l := by simp [lineD, lineV, cellV]
@[simp] theorem lineD_lineP (l : LineT) : lineD (lineP l) = l := by simp [lineD, lineP, roP, cellV]

@[simp] theorem lineD_agg (a b c d : Value) : lineD (.agg #[a, b, c, d]) = ⟨bssD a, intsD b, boolOf c, intOf d⟩ := rfl
@[simp] theorem lineD_tuple (n : Nat) (a b c d : Value) : lineD (.iface n (.tuple #[a, b, c, d])) = ⟨bssD a, intsD b, boolOf c, intOf d⟩ := rfl

/-- One of a list of lists, loaded. -/
theorem load_bss {r : List (List Int)} {j s : Nat} (hs : 0 < s) (h : j < r.length) :
    List.take 1 (List.take s (List.drop j (r.map (intsV .u8)).toArray.toList)).toArray.toList = [roS (lenS ((List.take s (List.drop j (r.map (intsV .u8)).toArray.toList)).toArray.toList.getD 0 .nilFunc)) (cellsS ((List.take s (List.drop j (r.map (intsV .u8)).toArray.toList)).toArray.toList.getD 0 .nilFunc))] := by
  obtain ⟨s, rfl⟩ : ∃ s', s = s' + 1 := ⟨s - 1, by omega⟩
  have : List.drop j (r.map (intsV .u8)) = intsV .u8 r[j] :: List.drop (j + 1) (r.map (intsV .u8)) := by
    rw [List.drop_eq_getElem_cons (by simpa using h)]
    simp
  simp [this, intsV]

theorem loaded_bss {r : List (List Int)} {j s : Nat} (hs : 0 < s) (h : j < r.length) : (List.take s (List.drop j (r.map (intsV .u8)).toArray.toList)).toArray.toList.getD 0 .nilFunc = intsV .u8 (r.getD j []) := by
  obtain ⟨s, rfl⟩ : ∃ s', s = s' + 1 := ⟨s - 1, by omega⟩
  simp only [List.getD_eq_getElem?_getD]
  rw [List.getElem?_take_of_lt (by omega), List.getElem?_drop]
  simp [h]

theorem condP_tt {b : Bool} {p q : Option Prop} (hb : b = true) (h : Holds p) : Holds (condP b p q) := condP_intro (fun _ => h) (fun g => by rw [hb] at g; cases g)
theorem condP_ff {b : Bool} {p q : Option Prop} (hb : b = false) (h : Holds q) : Holds (condP b p q) := condP_intro (fun g => by rw [hb] at g; cases g) (fun _ => h)
theorem vint_tt {k : IntKind} {b : Bool} {x y z : Int} (hb : b = true) (h : Value.int k x = Value.int k z) : Value.int k (bif b then x else y) = Value.int k z := by rw [hb]; exact h
theorem vint_ff {k : IntKind} {b : Bool} {x y z : Int} (hb : b = false) (h : Value.int k y = Value.int k z) : Value.int k (bif b then x else y) = Value.int k z := by rw [hb]; exact h
theorem vbool_tt {b x y z : Bool} (hb : b = true) (h : Value.bool x = Value.bool z) : Value.bool (bif b then x else y) = Value.bool z := by rw [hb]; exact h
theorem vbool_ff {b x y z : Bool} (hb : b = false) (h : Value.bool y = Value.bool z) : Value.bool (bif b then x else y) = Value.bool z := by rw [hb]; exact h
theorem in_range {i n : Nat} (h : i < n) : 0 ≤ (i : Int) ∧ (i : Int) < (n : Int) := by omega
theorem veq_goal {a b : Value} (h : a = b) : a = b := h
theorem le_goal {a b : Nat} (h : a ≤ b) : a ≤ b := h
theorem fixd_goal {l : List Value} {a b : Nat} (h : l.all fixd = true) (h' : a ≤ b) : l.all fixd = true ∧ a ≤ b := ⟨h, h'⟩
theorem idx_lt {i n : Nat} (h : i < n) : decide ((i : Int) < (n : Int)) = true := by simp; omega
theorem idx_ge {i n : Nat} (h : n ≤ i) : decide ((i : Int) < (n : Int)) = false := by simp; omega
theorem wrap_succ {i : Nat} (h : i < 4611686018427387904) : IntKind.i64.wrap ((i : Int) + 1) = ((i + 1 : Nat) : Int) := by rw [wrap64 (by omega) (by omega)]; rfl
end Go.Ab
