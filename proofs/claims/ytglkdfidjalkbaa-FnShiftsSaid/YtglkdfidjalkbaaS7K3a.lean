/- What the functions of the program answer, for all arguments that the theorems name as conditions. -/
import Derived.Test.YtglkdfidjalkbaaS7G24
import Derived.Test.YtglkdfidjalkbaaS7K0
namespace Go.Ab
set_option linter.unusedSimpArgs false
set_option linter.unusedVariables false
set_option maxHeartbeats 8000000

theorem l_EqualC (r : List CellT) : ∀ (p : List CellT) (q : Nat), r.length < q → (p ++ r).length < 1000000000 → L_slices_Equal_impl_Cell_impl_Cell 0 q 0 [frS eC (p ++ r), frS eC (p ++ r), .int .i64 (p ++ r).length, .int .i64 p.length] [] = some (.bool true, []) := by
  induction r with
  | nil =>
    intro p q hq hl
    obtain ⟨q, rfl⟩ : ∃ n, q = n + 1 := ⟨q - 1, by omega⟩
    simp -implicitDefEqProofs [L_slices_Equal_impl_Cell_impl_Cell, retK_eq]
  | cons x r ih =>
    intro p q hq hl
    obtain ⟨q, rfl⟩ : ∃ n, q = n + 1 := ⟨q - 1, by omega⟩
    have h := ih (p ++ [x]) q (by simp at hq; omega) (by simpa using hl)
    simp at h
    have hx := ixa_mid eC (sz := 2) rfl .i64 p x r
    have hw := wrap_next (n := p.length) (by simp at hl; omega)
    simp +contextual -implicitDefEqProofs [L_slices_Equal_impl_Cell_impl_Cell, retK_eq, cutK_eq, hx, hw, eqFX_cons, h]
theorem s_EqualC (l : List CellT) (h : l.length < 1000000000) : X_slices_Equal_impl_Cell_impl_Cell [frS eC l, frS eC l] [] = some (.bool true, []) := by
  have h1 := l_EqualC l [] QQ (by unfold QQ; omega) (by simpa using h)
  simp at h1
  simp -implicitDefEqProofs [X_slices_Equal_impl_Cell_impl_Cell, retK_eq, cutK_eq, h1]
theorem s_SameGrids (g : GridT) (h : g.small) : X_impl_SameGrids [gridV g, gridV g] [] = some (.bool true, []) := by
  have h1 := s_EqualC g.cs h.1
  have h2 := s_EqualC g.bk h.2
  simp -implicitDefEqProofs [X_impl_SameGrids, retK_eq, cutK_eq, h1, h2]
theorem mul_le_iff {a b x W : Int} (h0 : 0 ≤ x) (h1 : x < W) : a * W ≤ b * W + x ↔ a ≤ b := by
  constructor
  · intro h
    rcases Int.lt_or_le b a with h2 | h2
    · have : (b + 1) * W ≤ a * W := Int.mul_le_mul_of_nonneg_right (by omega) (by omega)
      rw [Int.add_mul, Int.one_mul] at this
      omega
    · exact h2
  · intro h
    have : a * W ≤ b * W := Int.mul_le_mul_of_nonneg_right h (by omega)
    omega
theorem gt_mem {l : List CellT} {i : Nat} (h : i < l.length) : gt l i ∈ l := by rw [gt_lt h]; exact List.getElem_mem h
theorem shL_mem {l : List CellT} {a K : Nat} {n : Int} {z x : CellT} (h : a + K ≤ l.length) (hx : x ∈ shL l a K n z) : x ∈ l ∨ x = z := by
  obtain ⟨k, hk, rfl⟩ := List.getElem_of_mem hx
  have hl := shL_len l a K n z h
  have := shL_gt l a K n z h k (by omega)
  rw [gt_lt hk] at this
  rw [this]
  split
  · split
    · exact .inl (gt_mem (by omega))
    · exact .inr rfl
  · exact .inl (gt_mem (by omega))
theorem lwC_pl {g : GridT} (hf : faultG g = 0) {y x : Int} (y0 : 0 ≤ y) (y1 : y < g.r) (x0 : 0 ≤ x) (x1 : x < g.w) : lwC g y x = gt g.cs (y * g.w + x).toNat ∧ 0 ≤ y * g.w + x ∧ y * g.w + x < g.cs.length := by
  obtain ⟨q1, q2, q3, q4, q5, q6, q7, q8, q9, q10, _⟩ := grid_facts hf
  obtain ⟨A, W, hW, hA, m4, m5, W1, W2, A1, e1, e2, e3⟩ := row_of hf y0 y1
  have w1 : IntKind.i64.wrap ((A : Int) + x) = (A : Int) + x := wrap_i64 (by omega) (by omega)
  refine ⟨?_, by omega, by omega⟩
  unfold lwC
  rw [e1, w1, hA, if_neg (by omega)]
end Go.Ab
