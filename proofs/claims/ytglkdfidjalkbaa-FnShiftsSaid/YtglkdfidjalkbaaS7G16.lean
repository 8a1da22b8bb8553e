/- What the functions of the program answer, for all arguments that the theorems name as conditions. -/
import Derived.Test.YtglkdfidjalkbaaS7G16a
import Derived.Test.YtglkdfidjalkbaaS7G15
namespace Go.Ab
set_option linter.unusedSimpArgs false
set_option linter.unusedVariables false
set_option maxHeartbeats 4000000

theorem s_moved (l : List CellT) (a k c : Nat) (n z : Int) (h : a + k ≤ l.length) (hk : 0 < k) (hn : -1000 ≤ n ∧ n ≤ 1000) (hl : l.length < 500000000) : X_impl_moved [.slice (some ⟨0, a * 2, none⟩) k c, .int .i64 n, .int .i64 z] [ownB eC l] = some (.tuple #[], [ownB eC (l.take a ++ mvL ((l.drop a).take k) n ⟨32, z⟩ ++ l.drop (a + k))]) := by
  obtain ⟨f, hf⟩ : ∃ f : Nat, (f : Int) = min (max n (-n)) k := ⟨(min (max n (-n)) k).toNat, by omega⟩
  have w0 : IntKind.i64.wrap (0 - n) = -n := by rw [wrap_i64 (by omega) (by omega)]; omega
  have w1 : IntKind.i64.wrap (-n) = -n := by rw [wrap_i64 (by omega) (by omega)]
  have hb := s_blanks z f (by omega)
  have hs : ((l.drop a).take k).length = k := by rw [List.length_take, List.length_drop]; omega
  have hfz := fun j m => fzO_part eC j m (l := l) (o := a * 2) (a := a) (len := k) rfl h
  have hfr := fun j m => fzO_own eC j m (List.replicate f (⟨32, z⟩ : CellT))
  simp only [List.length_replicate] at hfr
  generalize hS : (l.drop a).take k = s at *
  by_cases h0 : 0 < n
  · have cc := s_ConcatC (List.replicate f ⟨32, z⟩) s (by simp; omega) (by simp; omega)
    simp only [two, hs, List.length_replicate] at cc
    have s1 := sl_own (m := [ownB eC l, ownB eC (List.replicate f ⟨32, z⟩), ⟨[slO 1 f, .slice (some ⟨0, a * 2, none⟩) k c], 1, true, true⟩, ownB eC (List.replicate f ⟨32, z⟩ ++ s)]) (sz := 2) (n := 3) (o := 0) (len := f + k) (c := f + k) (a := 0) (b := k) (lo := none) (hi := some (.int .i64 k)) rfl rfl (bnd_nat _ _ _) (by omega) (by omega) (by omega)
    have hc := cpL_own eC (m := [ownB eC l, ownB eC (List.replicate f ⟨32, z⟩), ⟨[slO 1 f, .slice (some ⟨0, a * 2, none⟩) k c], 1, true, true⟩, ownB eC (List.replicate f ⟨32, z⟩ ++ s)]) (sz := 2) (n := 0) (n2 := 3) (a := a) (a2 := 0) (dl := k) (sl := k) (c := c) (c2 := f + k) (l := l) (l2 := List.replicate f ⟨32, z⟩ ++ s) rfl rfl rfl h (by simp; omega)
    have e := mv_pos s n ⟨32, z⟩ f h0 (by rw [hs]; omega)
    rw [hs] at e
    simp only [List.drop_zero, Nat.min_self, e] at hc
    simp at s1 hc
    simp (maxSteps := 400000) -implicitDefEqProofs [X_impl_moved, retK_eq, w0, w1, ← hf, hb, hfz, hfr, hS, cc, s1, hc, h0]
  · have cc := s_ConcatC s (List.replicate f ⟨32, z⟩) (by simp; omega) (by simp; omega)
    simp only [two, hs, List.length_replicate] at cc
    have s1 := sl_own (m := [ownB eC l, ownB eC (List.replicate f ⟨32, z⟩), ⟨[.slice (some ⟨0, a * 2, none⟩) k c, slO 1 f], 1, true, true⟩, ownB eC (s ++ List.replicate f ⟨32, z⟩)]) (sz := 2) (n := 3) (o := 0) (len := k + f) (c := k + f) (a := f) (b := k + f) (lo := some (.int .i64 f)) (hi := none) rfl (bnd_nat _ _ _) rfl (by omega) (by omega) (by omega)
    have hc := cpL_own eC (m := [ownB eC l, ownB eC (List.replicate f ⟨32, z⟩), ⟨[.slice (some ⟨0, a * 2, none⟩) k c, slO 1 f], 1, true, true⟩, ownB eC (s ++ List.replicate f ⟨32, z⟩)]) (sz := 2) (n := 0) (n2 := 3) (a := a) (a2 := f) (dl := k) (sl := k) (c := c) (c2 := k) (l := l) (l2 := s ++ List.replicate f ⟨32, z⟩) rfl rfl rfl h (by simp; omega)
    have e := mv_neg s n ⟨32, z⟩ f (by omega) (by rw [hs]; omega)
    have e2 : (mvL s n ⟨32, z⟩).take k = mvL s n ⟨32, z⟩ := List.take_of_length_le (by simp; omega)
    simp only [Nat.min_self, e, e2] at hc
    simp at s1 hc
    simp (maxSteps := 400000) -implicitDefEqProofs [X_impl_moved, retK_eq, w0, w1, ← hf, hb, hfz, hfr, hS, cc, s1, hc, h0]
end Go.Ab
