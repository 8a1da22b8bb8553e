/- What the functions of the program answer, for all arguments that the theorems name as conditions. -/
import Derived.Test.YtkfbpdbopkdnjaaS3L4
namespace Go.Ab
set_option linter.unusedSimpArgs false
set_option linter.unusedVariables false
set_option maxHeartbeats 8000000

def lessH (k : Int) (l : List HdT) : List HdT := l.filter fun x => !(x.k == k)
theorem l_DeleteFunc (k : Int) (r : List HdT) : ∀ (kept : List HdT) (z : HdT) (junk p : List HdT) (q N : Nat), p = kept ++ z :: junk → N = p.length + r.length → r.length < q → N < 1000000000 → L_slices_DeleteFunc_impl_Hold_impl_Hold 2 q 0 [slO 0 N, clo 1, .int .i64 kept.length, .int .i64 p.length] [ownB eHd (p ++ r), blk [.int .i64 k]] = some (.slice (some ⟨0, 0, none⟩) (kept ++ lessH k r).length N, [ownB eHd ((kept ++ lessH k r) ++ List.replicate (N - (kept ++ lessH k r).length) ⟨0, 0⟩), blk [.int .i64 k]]) := by
  induction r with
  | nil =>
    intro kept z junk p q N hp hN hq hl
    obtain ⟨q, rfl⟩ : ∃ n, q = n + 1 := ⟨q - 1, by omega⟩
    have e1 : p.length = kept.length + (junk.length + 1) := by rw [hp]; simp
    simp at hN
    subst hN
    have h1 := fun m hm hb => sl_own (m := m) (sz := 2) (n := 0) (o := 0) (len := p.length) (c := p.length) (a := kept.length) (b := p.length) (lo := some (.int .i64 kept.length)) (hi := none) hm (bnd_nat _ _ _) hb (by omega) (by omega) (by omega)
    have h2 := fun m hm hb => sl_own (m := m) (sz := 2) (n := 0) (o := 0) (len := p.length) (c := p.length) (a := 0) (b := kept.length) (lo := none) (hi := some (.int .i64 kept.length)) hm hb (bnd_nat _ _ _) (by omega) (by omega) (by omega)
    have h3 := cl_hold (m := [ownB eHd p, blk [.int .i64 k]]) (n := 0) (a := kept.length) (k := p.length - kept.length) (c := p.length - kept.length) (l := p) rfl (by omega)
    have e2 : p.take kept.length ++ List.replicate (p.length - kept.length) ⟨0, 0⟩ ++ p.drop (kept.length + (p.length - kept.length)) = kept ++ List.replicate (p.length - kept.length) ⟨0, 0⟩ := by
      rw [show kept.length + (p.length - kept.length) = p.length by omega, List.drop_length]
      rw [hp]; simp
    rw [e2] at h3
    simp at h1 h2 h3
    simp -implicitDefEqProofs [L_slices_DeleteFunc_impl_Hold_impl_Hold, retK_eq, lessH, h1, h2, h3, esOf]
  | cons x r ih =>
    intro kept z junk p q N hp hN hq hl
    obtain ⟨q, rfl⟩ : ∃ n, q = n + 1 := ⟨q - 1, by omega⟩
    have e1 : p.length = kept.length + (junk.length + 1) := by rw [hp]; simp
    simp at hN
    subst hN
    have hw := wrap_next (n := p.length) (by omega)
    have hwk := wrap_next (n := kept.length) (by omega)
    have g : p.length * 2 + 2 ≤ (p.length + (r.length + 1)) * 2 := by omega
    have g2 : (kept.length : Int) < p.length + (r.length + 1) := by omega
    have g3 : kept.length * 2 + 2 ≤ (p.length + (r.length + 1)) * 2 := by omega
    have g4 : kept.length < p.length + (r.length + 1) := by omega
    by_cases hx : x.k = k
    · have h := ih kept z (junk ++ [x]) (p ++ [x]) q (p.length + (r.length + 1)) (by rw [hp]; simp) (by simp; omega) (by simp at hq; omega) hl
      have e3 : lessH k (x :: r) = lessH k r := by simp [lessH, hx]
      rw [e3]
      subst hx
      simp at h
      simp (maxSteps := 400000) +contextual -implicitDefEqProofs [L_slices_DeleteFunc_impl_Hold_impl_Hold, cf_slices_DeleteFunc_impl_Hold_impl_Hold, g, g2, g3, g4, retK_eq, cutK_eq, hw, hwk, h, s_impl_LiftKey_1]
    · obtain ⟨z2, j2, hz⟩ : ∃ z2 j2, junk ++ [x] = z2 :: j2 := by
        cases junk with
        | nil => exact ⟨x, [], rfl⟩
        | cons a b => exact ⟨a, b ++ [x], rfl⟩
      have hz' : junk ++ x :: r = z2 :: (j2 ++ r) := by
        have := congrArg (· ++ r) hz
        simpa using this
      have hzl : junk.length + 1 = j2.length + 1 := by
        have := congrArg List.length hz
        simpa using this
      have h := ih (kept ++ [x]) z2 j2 (kept ++ x :: z2 :: j2) q (p.length + (r.length + 1)) (by simp) (by simp; omega) (by simp at hq; omega) hl
      have hy : lay (cellsE eHd (p ++ x :: r)) (kept.length * 2) [.int .i64 x.k, .int .i64 x.b] = cellsE eHd (kept ++ x :: z2 :: (j2 ++ r)) := by
        rw [← hz', hp, List.append_assoc, List.cons_append]
        exact lay_eHd kept (junk ++ x :: r) z x.k x.b
      have hk := fun n o cc => ixa_sl (sz := 2) .i64 (n := n) (o := o) (len := p.length + (r.length + 1)) (c := cc) (j := (kept.length : Int)) (by omega) (by omega)
      simp only [Int.toNat_natCast] at hk
      have e3 : lessH k (x :: r) = x :: lessH k r := by simp [lessH, hx]
      have e4 : ((kept.length : Int) + (j2.length + 1 + 1)) = p.length + 1 := by omega
      have e5 : kept.length + (j2.length + 1 + 1) = p.length + 1 := by omega
      rw [e3]
      simp [e4] at h
      simp (maxSteps := 400000) +contextual -implicitDefEqProofs [L_slices_DeleteFunc_impl_Hold_impl_Hold, cf_slices_DeleteFunc_impl_Hold_impl_Hold, g, g2, g3, g4, retK_eq, cutK_eq, hw, hwk, h, s_impl_LiftKey_1, hx, hy, hk]
theorem lessH_none {k : Int} {l : List HdT} (h : ∀ x ∈ l, x.k ≠ k) : lessH k l = l := by
  unfold lessH
  rw [List.filter_eq_self]
  intro x hx
  simp [h x hx]
theorem lessH_split (k : Int) (l : List HdT) : (∀ x ∈ l, x.k ≠ k) ∨ ∃ a y b, l = a ++ y :: b ∧ y.k = k ∧ ∀ x ∈ a, x.k ≠ k := by
  induction l with
  | nil => exact .inl (by simp)
  | cons x r ih =>
    by_cases hx : x.k = k
    · exact .inr ⟨[], x, r, rfl, hx, by simp⟩
    · rcases ih with h | ⟨a, y, b, h1, h2, h3⟩
      · exact .inl (by simpa [hx] using h)
      · exact .inr ⟨x :: a, y, b, by simp [h1], h2, by simpa [hx] using h3⟩
/-- What is left of the holds: a slice of the block, and holds behind it that no one sees. -/
theorem s_DeleteFunc (k : Int) (l : List HdT) (hl : l.length < 1000000000) : ∃ z : List HdT, (lessH k l).length + z.length = l.length ∧ X_slices_DeleteFunc_impl_Hold_impl_Hold [slO 0 l.length, clo 1] [ownB eHd l, blk [.int .i64 k]] = some (.slice (some ⟨0, 0, none⟩) (lessH k l).length ((lessH k l).length + z.length), [ownB eHd (lessH k l ++ z), blk [.int .i64 k]]) := by
  rcases lessH_split k l with h | ⟨a, y, b, h1, h2, h3⟩
  · refine ⟨[], by rw [lessH_none h]; simp, ?_⟩
    rw [lessH_none h]
    have c1 := s_IndexFuncN k l h hl
    simp -implicitDefEqProofs [X_slices_DeleteFunc_impl_Hold_impl_Hold, retK_eq, cutK_eq, c1]
  · have c1 := s_IndexFuncY k y h2 a b h3 (by rw [← h1]; exact hl)
    rw [← h1] at c1
    have e0 : l.length = (a ++ [y]).length + b.length := by rw [h1]; simp; omega
    have c2 := l_DeleteFunc k b a y [] (a ++ [y]) QQ l.length rfl e0 (by unfold QQ; omega) hl
    have e1 : lessH k l = a ++ lessH k b := by
      rw [h1]
      unfold lessH
      rw [List.filter_append, List.filter_cons_of_neg (by simp [h2])]
      congr 1
      exact lessH_none h3
    have e2 : (lessH k b).length ≤ b.length := List.length_filter_le _ _
    rw [← e1] at c2
    have e3 : (lessH k l).length + (l.length - (lessH k l).length) = l.length := by rw [e1]; simp at e0 ⊢; omega
    refine ⟨List.replicate (l.length - (lessH k l).length) ⟨0, 0⟩, by simpa using e3, ?_⟩
    have e4 : (a ++ [y]) ++ b = l := by rw [h1]; simp
    rw [e4] at c2
    have hw := wrap_next (n := a.length) (by simp at e0; omega)
    have g : ¬ ((a.length : Int) = -1) := by omega
    simp at c2
    simp -implicitDefEqProofs [X_slices_DeleteFunc_impl_Hold_impl_Hold, retK_eq, cutK_eq, c1, hw, g, c2, e3]
theorem s_DeleteFuncE (k : Int) : X_slices_DeleteFunc_impl_Hold_impl_Hold [roS 0 [], clo 0] [blk [.int .i64 k]] = some (roS 0 [], [blk [.int .i64 k]]) := by
  have c1 := s_IndexFuncE k
  simp -implicitDefEqProofs [X_slices_DeleteFunc_impl_Hold_impl_Hold, retK_eq, cutK_eq, c1]
end Go.Ab
