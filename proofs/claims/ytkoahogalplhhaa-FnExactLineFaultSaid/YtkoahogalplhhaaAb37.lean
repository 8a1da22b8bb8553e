/- Part of an own evaluator of Go code on numbered blocks, and of the proof that the machine does what it says; each theorem carries its own conditions. -/
import Derived.Test.YtkoahogalplhhaaAb36
set_option linter.unusedVariables false
set_option linter.unusedSimpArgs false
namespace Go.Ab

/-- A block that is filled place by place. -/
theorem fill_step {l : List Value} {i n : Nat} {z : Value} (hn : l.length = n) (h : i < n) :
    splice (l.take i ++ List.replicate (n - i) z) i [l[i]'(by omega)] = l.take (i + 1) ++ List.replicate (n - (i + 1)) z := by
  have h1 : (l.take i).length = i := by simp; omega
  have h2 : List.replicate (n - i) z = z :: List.replicate (n - (i + 1)) z := by
    rw [show n - i = (n - (i + 1)) + 1 by omega, List.replicate_succ]
  have h3 : (l.take i ++ List.replicate (n - i) z).take i = l.take i := by
    rw [List.take_append_of_le_length (by omega), List.take_of_length_le (by omega)]
  have h4 : (l.take i ++ List.replicate (n - i) z).drop (i + 1) = List.replicate (n - (i + 1)) z := by
    rw [h2, List.drop_append, List.drop_eq_nil_of_le (by omega), List.nil_append, h1, Nat.add_sub_cancel_left]
    rfl
  unfold splice
  rw [h3, List.length_singleton, h4, List.take_succ_eq_append_getElem (by omega)]

theorem fill_len {l : List Value} {i n : Nat} {z : Value} (hn : l.length = n) (h : i ≤ n) : (l.take i ++ List.replicate (n - i) z).length = n := by
  simp; omega

theorem fill_end {l : List Value} {n : Nat} {z : Value} (hn : l.length = n) : l.take n ++ List.replicate (n - n) z = l := by
  simp [← hn]

theorem zeros_one (n : Nat) (z : Value) : (List.replicate n [z]).flatten = List.replicate n z := by
  induction n with
  | zero => rfl
  | succ n ih => rw [List.replicate_succ, List.flatten_cons, ih, List.replicate_succ]; rfl

theorem all_inert_fill {l : List Value} {i n : Nat} {z : Value} (h : l.all inert = true) (hz : inert z = true) : (l.take i ++ List.replicate n z).all inert = true := by
  rw [List.all_eq_true] at *
  intro x hx
  rw [List.mem_append] at hx
  rcases hx with hx | hx
  · exact h x (List.mem_of_mem_take hx)
  · rw [List.eq_of_mem_replicate hx]; exact hz
end Go.Ab
namespace Go.Ab
theorem vif_ff {b : Bool} {n n' : Nat} {xs ys : Array Value} {v : Value} (hb : b = false) (h : Value.iface n' (.agg ys) = v) : Value.iface (bif b then n else n') (.agg (bif b then xs else ys)) = v := by rw [hb]; exact h
theorem vif_tt {b : Bool} {n n' : Nat} {xs ys : Array Value} {v : Value} (hb : b = true) (h : Value.iface n (.agg xs) = v) : Value.iface (bif b then n else n') (.agg (bif b then xs else ys)) = v := by rw [hb]; exact h
theorem vif_same {b : Bool} {n : Nat} {xs : Array Value} : Value.iface (bif b then n else n) (.agg (bif b then xs else xs)) = Value.iface n (.agg xs) := by cases b <;> rfl

/-- A block of cells, filled up to a place. -/
def fillB (l : List Value) (i : Nat) (z : Value) : Blk := ⟨l.take i ++ List.replicate (l.length - i) z, 1, true, true⟩

theorem fillB_done {l : List Value} {i : Nat} {z : Value} (h : l.length ≤ i) : (fillB l i z).cells = l := by
  unfold fillB
  simp only
  rw [List.take_of_length_le h, Nat.sub_eq_zero_of_le h]
  simp

theorem fillB_all {l : List Value} {i n : Nat} {z : Value} (h : l.length ≤ i) (hn : n = l.length) : List.take (n * 1) (List.drop 0 (fillB l i z).cells) = l := by
  rw [fillB_done h, List.drop_zero, List.take_of_length_le (by omega)]

theorem fillB_goal {l : List Value} {i n : Nat} {z : Value} (h : l.length ≤ i) (hn : n = l.length) (hf : l.all fixd = true) : (List.take (n * 1) (List.drop 0 (fillB l i z).cells)).all fixd = true ∧ 0 + n * 1 ≤ (fillB l i z).cells.length := by
  refine ⟨by rw [fillB_all h hn]; exact hf, ?_⟩
  rw [fillB_done h]
  omega

theorem fillB_len {l : List Value} {i : Nat} {z : Value} (h : i ≤ l.length) : (fillB l i z).cells.length = l.length := by
  unfold fillB; simp; omega

theorem fillB_set {l : List Value} {i : Nat} {z x : Value} (h : i < l.length) (hx : l[i] = x) : splice (fillB l i z).cells (0 + i * 1) [x] = (fillB l (i + 1) z).cells := by
  rw [Nat.zero_add, Nat.mul_one, ← hx]
  exact fill_step rfl h

theorem fillB_new (n : Nat) (l : List Value) (z : Value) (h : n = l.length) : (List.replicate n [z]).flatten = (fillB l 0 z).cells := by
  rw [zeros_one, h]
  simp [fillB]

theorem fillB_inert {l : List Value} {i : Nat} {z : Value} (h : l.all inert = true) (hz : inert z = true) : (fillB l i z).cells.all inert = true := all_inert_fill h hz
end Go.Ab
