/- What the functions of the program answer, for all arguments that the theorems name as conditions. -/
import Derived.Test.YtglkdfidjalkbaaS7G17a
namespace Go.Ab
set_option linter.unusedSimpArgs false
set_option linter.unusedVariables false
set_option maxHeartbeats 8000000

/-! ## Cells by their places -/
theorem ext_gt {α : Type} [Inhabited α] {l r : List α} (h : l.length = r.length) (hk : ∀ k, k < l.length → gt l k = gt r k) : l = r := by
  apply List.ext_getElem h
  intro k h1 h2
  have := hk k h1
  rwa [gt_lt h1, gt_lt h2] at this
theorem gt_part {α : Type} [Inhabited α] (l : List α) (a W k : Nat) (h : a + W ≤ l.length) (hk : k < W) : gt ((l.drop a).take W) k = gt l (a + k) := by
  rw [gt_lt (by simp; omega), gt_lt (by omega), List.getElem_take, List.getElem_drop]
theorem gt_drop {α : Type} [Inhabited α] (l : List α) (a k : Nat) : gt (l.drop a) k = gt l (a + k) := by simp [gt]
theorem gt_take {α : Type} [Inhabited α] (l : List α) (a k : Nat) (h : k < a) : gt (l.take a) k = gt l k := by simp [gt, List.getElem?_take, h]
theorem gt_app1 {α : Type} [Inhabited α] (l r : List α) (k : Nat) (h : k < l.length) : gt (l ++ r) k = gt l k := by simp [gt, List.getElem?_append_left h]
theorem gt_app2 {α : Type} [Inhabited α] (l r : List α) (k : Nat) (h : l.length ≤ k) : gt (l ++ r) k = gt r (k - l.length) := by simp [gt, List.getElem?_append_right h]
theorem gt_rep {α : Type} [Inhabited α] (n k : Nat) (z : α) (h : k < n) : gt (List.replicate n z) k = z := by simp [gt, h]
theorem shL_gt (l : List CellT) (a K : Nat) (n : Int) (z : CellT) (h : a + K ≤ l.length) (k : Nat) (hk : k < l.length) : gt (shL l a K n z) k = if a ≤ k ∧ k < a + K then (if (a : Int) ≤ (k : Int) - n ∧ (k : Int) - n < ((a + K : Nat) : Int) then gt l ((k : Int) - n).toNat else z) else gt l k := by
  have hm : ((l.drop a).take K).length = K := by simp; omega
  have ha : (l.take a).length = a := by simp; omega
  unfold shL
  rcases Nat.lt_or_ge k a with h1 | h1
  · rw [if_neg (by omega), List.append_assoc, gt_app1 _ _ _ (by omega), gt_take _ _ _ h1]
  · rcases Nat.lt_or_ge k (a + K) with h2 | h2
    · rw [if_pos ⟨h1, h2⟩, List.append_assoc, gt_app2 _ _ _ (by omega), gt_app1 _ _ _ (by simp; omega), ha, gt_lt (by simp; omega), mvL_get _ _ _ _ (by omega), hm]
      by_cases hb : (a : Int) ≤ (k : Int) - n ∧ (k : Int) - n < ((a + K : Nat) : Int)
      · rw [if_pos hb, if_pos (by omega), gt_part _ _ _ _ (by omega) (by omega)]
        congr 1
        omega
      · rw [if_neg hb, if_neg (by omega)]
    · rw [if_neg (by omega), gt_app2 _ _ _ (by simp; omega), gt_drop]
      congr 1
      simp
      omega
theorem shL_zero (l : List CellT) (a K : Nat) (z : CellT) (h : a + K ≤ l.length) : shL l a K 0 z = l := by
  refine ext_gt (shL_len _ _ _ _ _ h) fun k hk => ?_
  rw [shL_len _ _ _ _ _ h] at hk
  rw [shL_gt _ _ _ _ _ h _ hk]
  split
  · rw [if_pos (by omega)]
    simp
  · rfl
theorem shL_two (l : List CellT) (a K : Nat) (n m : Int) (z : CellT) (h : a + K ≤ l.length) (hs : (0 ≤ n ∧ 0 ≤ m) ∨ (n ≤ 0 ∧ m ≤ 0)) : shL (shL l a K n z) a K m z = shL l a K (n + m) z := by
  have hl := shL_len l a K n z h
  refine ext_gt (by rw [shL_len _ _ _ _ _ (by omega), hl, shL_len _ _ _ _ _ h]) fun k hk => ?_
  rw [shL_len _ _ _ _ _ (by omega), hl] at hk
  rw [shL_gt _ _ _ _ _ (by omega) _ (by omega), shL_gt l a K (n + m) z h _ hk]
  by_cases h1 : a ≤ k ∧ k < a + K
  · rw [if_pos h1, if_pos h1]
    by_cases h2 : (a : Int) ≤ (k : Int) - m ∧ (k : Int) - m < ((a + K : Nat) : Int)
    · rw [if_pos h2, shL_gt _ _ _ _ _ h _ (by omega), if_pos (by omega)]
      by_cases h3 : (a : Int) ≤ (k : Int) - (n + m) ∧ (k : Int) - (n + m) < ((a + K : Nat) : Int)
      · rw [if_pos h3, if_pos (by omega)]
        congr 1
        omega
      · rw [if_neg h3, if_neg (by omega)]
    · rw [if_neg h2, if_neg (by omega)]
  · rw [if_neg h1, if_neg h1, shL_gt _ _ _ _ _ h _ hk, if_neg h1]
theorem shL_far (l : List CellT) (a K : Nat) (n m : Int) (z : CellT) (h : a + K ≤ l.length) (hs : ((K : Int) ≤ n ∧ (K : Int) ≤ m) ∨ (n ≤ -(K : Int) ∧ m ≤ -(K : Int))) : shL l a K n z = shL l a K m z := by
  refine ext_gt (by rw [shL_len _ _ _ _ _ h, shL_len _ _ _ _ _ h]) fun k hk => ?_
  rw [shL_len _ _ _ _ _ h] at hk
  rw [shL_gt _ _ _ _ _ h _ hk, shL_gt _ _ _ _ _ h _ hk]
  by_cases h1 : a ≤ k ∧ k < a + K
  · rw [if_pos h1, if_pos h1, if_neg (by omega), if_neg (by omega)]
  · rw [if_neg h1, if_neg h1]

/-! ## One row up or down -/
theorem up_row (l : List CellT) (a K W p : Nat) (z : CellT) (h : a + K ≤ l.length) (h0 : a ≤ p) (h1 : p + W + W ≤ a + K) : ((shL l a K (-(W : Int)) z).drop p).take W = (l.drop (p + W)).take W := by
  have hl := shL_len l a K (-(W : Int)) z h
  refine ext_gt (by simp [hl]; omega) fun k hk => ?_
  simp [hl] at hk
  rw [gt_part _ _ _ _ (by omega) (by omega), gt_part _ _ _ _ (by omega) (by omega), shL_gt _ _ _ _ _ h _ (by omega), if_pos (by omega), if_pos (by omega)]
  congr 1
  omega
theorem up_last (l : List CellT) (a K W : Nat) (z : CellT) (h : a + K ≤ l.length) (hW : W ≤ K) : ((shL l a K (-(W : Int)) z).drop (a + K - W)).take W = List.replicate W z := by
  have hl := shL_len l a K (-(W : Int)) z h
  refine ext_gt (by simp [hl]; omega) fun k hk => ?_
  simp [hl] at hk
  rw [gt_part _ _ _ _ (by omega) (by omega), gt_rep _ _ _ (by omega), shL_gt _ _ _ _ _ h _ (by omega), if_pos (by omega), if_neg (by omega)]
theorem down_row (l : List CellT) (a K W p : Nat) (z : CellT) (h : a + K ≤ l.length) (h0 : a ≤ p) (h1 : p + W + W ≤ a + K) : ((shL l a K (W : Int) z).drop (p + W)).take W = (l.drop p).take W := by
  have hl := shL_len l a K (W : Int) z h
  refine ext_gt (by simp [hl]; omega) fun k hk => ?_
  simp [hl] at hk
  rw [gt_part _ _ _ _ (by omega) (by omega), gt_part _ _ _ _ (by omega) (by omega), shL_gt _ _ _ _ _ h _ (by omega), if_pos (by omega), if_pos (by omega)]
  congr 1
  omega
theorem down_first (l : List CellT) (a K W : Nat) (z : CellT) (h : a + K ≤ l.length) (hW : W ≤ K) : ((shL l a K (W : Int) z).drop a).take W = List.replicate W z := by
  have hl := shL_len l a K (W : Int) z h
  refine ext_gt (by simp [hl]; omega) fun k hk => ?_
  simp [hl] at hk
  rw [gt_part _ _ _ _ (by omega) (by omega), gt_rep _ _ _ (by omega), shL_gt _ _ _ _ _ h _ (by omega), if_pos (by omega), if_neg (by omega)]
theorem shL_take (l : List CellT) (a K : Nat) (n : Int) (z : CellT) (h : a + K ≤ l.length) : (shL l a K n z).take a = l.take a := by
  unfold shL
  rw [List.append_assoc, List.take_left' (by simp; omega)]
theorem shL_drop (l : List CellT) (a K : Nat) (n : Int) (z : CellT) (h : a + K ≤ l.length) : (shL l a K n z).drop (a + K) = l.drop (a + K) := by
  unfold shL
  rw [List.drop_left' (by simp; omega)]
theorem put_row {α : Type} (S l : List α) (p W : Nat) (hl : S.length = l.length) (h : p + W ≤ l.length) : (S.take p ++ l.drop p).take p ++ (S.drop p).take W ++ (S.take p ++ l.drop p).drop (p + W) = S.take (p + W) ++ l.drop (p + W) := by
  have hp : (S.take p).length = p := by simp; omega
  rw [List.take_left' hp, ← List.take_add, List.drop_append, hp, List.drop_of_length_le (by omega), List.nil_append, show p + W - p = W by omega, List.drop_drop]
theorem put_row2 {α : Type} (S l : List α) (p W : Nat) (hl : S.length = l.length) (h : p + W ≤ l.length) : (l.take (p + W) ++ S.drop (p + W)).take p ++ (S.drop p).take W ++ (l.take (p + W) ++ S.drop (p + W)).drop (p + W) = l.take p ++ S.drop p := by
  have hp : (l.take (p + W)).length = p + W := by simp; omega
  rw [List.drop_left' hp, List.take_append_of_le_length (by omega), List.take_take, Nat.min_eq_left (by omega), List.append_assoc]
  congr 1
  conv => rhs; rw [← List.take_append_drop W (S.drop p)]
  rw [List.drop_drop]
end Go.Ab
