/- FeedsIn of the program and FeedsIn of the reference both count the bytes that are 10, at every argument (ErrMany above 1000 bytes), and the argument is left as it was; no condition. -/
import Derived.Test.YtkoahogalplhhaaPFnExactFeedsInx1
namespace Go.Proofs.Ytkoahogalplhhaa.Pure
open Go.RowKit Go.Proofs.Ytkoahogalplhhaa.PFnExactFeedsIn Go.Proofs.YtkoahogalplhhaaW.PrintWords Go.Proofs.YtkoahogalplhhaaW.PrintLast

/-- How many of the numbers from place i on are 10. -/
def tens (l : List Int) (i : Nat) : Nat := ((l.drop i).filter (· == 10)).length

theorem tens_end (l : List Int) (i : Nat) (h : l.length ≤ i) : tens l i = 0 := by
  simp [tens, List.drop_eq_nil_of_le h]

theorem tens_step (l : List Int) (i : Nat) (h : i < l.length) : tens l i = (if rd l i = 10 then 1 else 0) + tens l (i + 1) := by
  unfold tens
  rw [List.drop_eq_getElem_cons h]
  have e : rd l (i : Int) = l[i] := by simp [rd, List.getD_eq_getElem?_getD, h]
  rw [e, List.filter_cons]
  by_cases c : l[i] = 10
  · simp [c]; omega
  · simp [c]

theorem wrap_next (i : Int) (h0 : 0 ≤ i) (h : i < 1048577) : wrap64 (i + 1) = i + 1 := by unfold wrap64; omega

theorem spec_counts (l : List Int) (hl : l.length ≤ 1000) (d : Nat) : ∀ (k : Nat) (i n : Nat), i + d = l.length → n ≤ i → d < k →
    spec_FeedsIn.l0 k l n i = some (0, ((n + tens l i : Nat) : Int)) := by
  induction d with
  | zero =>
    intro k i n hi hn hk
    obtain ⟨k, rfl⟩ : ∃ m, k = m + 1 := ⟨k - 1, by omega⟩
    simp only [spec_FeedsIn.l0]
    rw [if_neg (by omega), tens_end l i (by omega)]
    simp
  | succ d ih =>
    intro k i n hi hn hk
    obtain ⟨k, rfl⟩ : ∃ m, k = m + 1 := ⟨k - 1, by omega⟩
    simp only [spec_FeedsIn.l0]
    rw [if_pos (by omega), if_pos (by omega), tens_step l i (by omega)]
    rw [wrap_next (i : Int) (by omega) (by omega)]
    by_cases c : rd l (i : Int) = 10
    · rw [if_pos c, if_pos c, wrap_next (n : Int) (by omega) (by omega)]
      have := ih k (i + 1) (n + 1) (by omega) (by omega) (by omega)
      push_cast at this ⊢
      rw [this]
      simp; omega
    · rw [if_neg c, if_neg c]
      have := ih k (i + 1) n (by omega) (by omega) (by omega)
      push_cast at this ⊢
      rw [this]
      simp

theorem impl_counts (l : List Int) (hl : l.length ≤ 1000) (d : Nat) : ∀ (k : Nat) (i n : Nat), i + d = l.length → n ≤ i → d < k →
    impl_FeedsIn.l0 k n l (l.length : Int) i = some (0, ((n + tens l i : Nat) : Int)) := by
  induction d with
  | zero =>
    intro k i n hi hn hk
    obtain ⟨k, rfl⟩ : ∃ m, k = m + 1 := ⟨k - 1, by omega⟩
    simp only [impl_FeedsIn.l0]
    rw [if_neg (by omega), tens_end l i (by omega)]
    simp
  | succ d ih =>
    intro k i n hi hn hk
    obtain ⟨k, rfl⟩ : ∃ m, k = m + 1 := ⟨k - 1, by omega⟩
    simp only [impl_FeedsIn.l0]
    rw [if_pos (by omega), if_pos (by omega), if_pos (by omega), tens_step l i (by omega)]
    rw [wrap_next (i : Int) (by omega) (by omega)]
    by_cases c : rd l (i : Int) = 10
    · rw [if_pos c, if_pos c, wrap_next (n : Int) (by omega) (by omega)]
      have := ih k (i + 1) (n + 1) (by omega) (by omega) (by omega)
      push_cast at this ⊢
      rw [this]
      simp; omega
    · rw [if_neg c, if_neg c]
      have := ih k (i + 1) n (by omega) (by omega) (by omega)
      push_cast at this ⊢
      rw [this]
      simp

/-- A copy in the making: the first i numbers are the source's, the others still 0. -/
theorem copy_loop (l : List Int) (hl : l.length ≤ 1048576) (d : Nat) : ∀ (k : Nat) (i : Nat), i + d = l.length → d < k →
    laws_toByteS.l0 k l (l.take i ++ List.replicate d 0) i = some l := by
  induction d with
  | zero =>
    intro k i hi hk
    obtain ⟨k, rfl⟩ : ∃ m, k = m + 1 := ⟨k - 1, by omega⟩
    simp only [laws_toByteS.l0]
    rw [if_neg (by omega)]
    simp [List.take_of_length_le (show l.length ≤ i by omega)]
  | succ d ih =>
    intro k i hi hk
    obtain ⟨k, rfl⟩ : ∃ m, k = m + 1 := ⟨k - 1, by omega⟩
    have hlen : (l.take i).length = i := by simp; omega
    simp only [laws_toByteS.l0]
    rw [if_pos (by omega), if_pos (by omega), if_pos (by simp; omega)]
    rw [wrap_next (i : Int) (by omega) (by omega)]
    have e : (l.take i ++ List.replicate (d + 1) 0).set (Int.toNat (i : Int)) (rd l i) = l.take (i + 1) ++ List.replicate d 0 := by
      have hi' : i < l.length := by omega
      rw [Int.toNat_natCast, List.set_append_right _ _ (by omega), hlen, Nat.sub_self, List.replicate_succ, List.set_cons_zero]
      have hr : rd l (i : Int) = l[i] := by simp [rd, List.getD_eq_getElem?_getD, hi']
      have ht : l.take (i + 1) = l.take i ++ [l[i]] := by simp
      rw [hr, ht, List.append_assoc]
      rfl
    rw [e]
    have := ih k (i + 1) (by omega) (by omega)
    simpa using this

theorem copies (l : List Int) (hl : l.length ≤ 1048576) (k : Nat) (hk : l.length < k) : laws_toByteS.f k l = some l := by
  unfold laws_toByteS.f
  rw [if_pos (by omega), if_pos (by omega)]
  have := copy_loop l hl l.length k 0 (by omega) hk
  simpa using this

theorem same_loop (l : List Int) (hl : l.length ≤ 1048576) (d : Nat) : ∀ (k : Nat) (i : Nat), i + d = l.length → d < k →
    laws_eqByteS.l0 k l l i = some true := by
  induction d with
  | zero =>
    intro k i hi hk
    obtain ⟨k, rfl⟩ : ∃ m, k = m + 1 := ⟨k - 1, by omega⟩
    simp only [laws_eqByteS.l0]
    rw [if_neg (by omega)]
  | succ d ih =>
    intro k i hi hk
    obtain ⟨k, rfl⟩ : ∃ m, k = m + 1 := ⟨k - 1, by omega⟩
    simp only [laws_eqByteS.l0]
    rw [if_pos (by omega), if_pos (by omega), if_pos (by omega), if_pos trivial, wrap_next (i : Int) (by omega) (by omega)]
    have := ih k (i + 1) (by omega) (by omega)
    simpa using this

theorem FnExactFeedsIn : laws_FnExactFeedsIn.Pure := by
  intro l _ _ _
  refine ⟨l.length + 1, ?_⟩
  unfold laws_FnExactFeedsIn.f
  by_cases big : (l.length : Int) > 1048576
  · rw [if_pos big]
  · rw [if_neg big]
    have hl : l.length ≤ 1048576 := by omega
    have hc := copies l hl (l.length + 1) (by omega)
    have hs : laws_eqByteS.f (l.length + 1) l l = some true := by
      unfold laws_eqByteS.f
      rw [if_pos rfl]
      have := same_loop l hl l.length (l.length + 1) 0 (by omega) (by omega)
      simpa using this
    rw [hc]
    simp only [Option.bind_some]
    by_cases many : (l.length : Int) > 1000
    · have h1 : spec_FeedsIn.f (l.length + 1) l = some (2, 0) := by unfold spec_FeedsIn.f; rw [if_pos many]
      have h2 : impl_FeedsIn.f (l.length + 1) l = some (2, 0) := by
        unfold impl_FeedsIn.f impl_postCode.f impl_unless.f
        have : decide ((l.length : Int) ≤ 1000) = false := decide_eq_false (by omega)
        rw [this]
        simp
      rw [h1]
      simp only [Option.bind_some, h2, hs]
      simp [laws_eqIntResult.f]
    · have hm : l.length ≤ 1000 := by omega
      have h1 : spec_FeedsIn.f (l.length + 1) l = some (0, ((0 + tens l 0 : Nat) : Int)) := by
        unfold spec_FeedsIn.f
        rw [if_neg many]
        have := spec_counts l hm l.length (l.length + 1) 0 0 (by omega) (by omega) (by omega)
        simpa using this
      have h2 : impl_FeedsIn.f (l.length + 1) l = some (0, ((0 + tens l 0 : Nat) : Int)) := by
        unfold impl_FeedsIn.f impl_postCode.f impl_unless.f
        have : decide ((l.length : Int) ≤ 1000) = true := decide_eq_true (by omega)
        rw [this]
        have := impl_counts l hm l.length (l.length + 1) 0 0 (by omega) (by omega) (by omega)
        simpa using this
      rw [h1]
      simp only [Option.bind_some, h2, hs]
      simp [laws_eqIntResult.f]

end Go.Proofs.Ytkoahogalplhhaa.Pure
