/- What the functions of the program answer, for all arguments that the theorems name as conditions. -/
import Derived.Test.YtglkdfidjalkbaaS7G21
namespace Go.Ab
set_option linter.unusedSimpArgs false
set_option linter.unusedVariables false
set_option maxHeartbeats 8000000

/-! ## ScrollGrid of the program -/
theorem s_impl_ScrollGrid_1 (g : GridT) (t b n z : Int) : X_impl_ScrollGrid_1 [roP [.int .i64 t], gridP g [], roP [.int .i64 b], roP [.int .i64 n], roP [.int .i64 z]] [] = some (.bool (okSc g t b n z), []) := by
  cases h : inB t 0 (IntKind.i64.wrap (g.r - 1)) <;> cases h2 : inB b t (IntKind.i64.wrap (g.r - 1)) <;> cases h3 : inB n (-9) 9 <;> simp (maxSteps := 1000000) -implicitDefEqProofs [X_impl_ScrollGrid_1, retK_eq, s_impl_in, s_impl_isAttr, h, h2, h3, okSc]
abbrev scB (t b n z : Int) : Mem := [blk [.int .i64 t], blk [.int .i64 b], blk [.int .i64 n], blk [.int .i64 z]]
theorem s_impl_ScrollGrid_2 (g : GridT) (t b n z : Int) (bv : Value) (bm : Mem) (hf : faultG g = 0) (ho : okSc g t b n z = true) (hk : ¬ (t = 0 ∧ 0 < n)) (hb : BK g.bk 6 bv bm) : X_impl_ScrollGrid_2 [ptr 0, ptr 1, ptr 2, ptr 3, ptr 4] (blk [.int .i64 g.r, .int .i64 g.w, slO 5 g.cs.length, bv] :: (scB t b n z ++ ownB eC g.cs :: bm)) = some (.tuple #[], blk [.int .i64 g.r, .int .i64 g.w, slO 5 g.cs.length, bv] :: (scB t b n z ++ ownB eC (scG g t b n z).cs :: bm)) := by
  rcases hb with ⟨rfl, rfl⟩ | ⟨rfl, rfl, hb0⟩
  · have ha := s_impl_scroll_stay g t b n z _ _ hf ho hk (.inl ⟨rfl, rfl⟩)
    simp (maxSteps := 1000000) -implicitDefEqProofs [X_impl_ScrollGrid_2, retK_eq, ha]
  · have ha := s_impl_scroll_stay g t b n z _ _ hf ho hk (.inr ⟨rfl, rfl, hb0⟩)
    simp (maxSteps := 1000000) -implicitDefEqProofs [X_impl_ScrollGrid_2, retK_eq, ha]
theorem s_impl_ScrollGrid_2K (g : GridT) (b n z : Int) (bv : Value) (bm : Mem) (hf : faultG g = 0) (ho : okSc g 0 b n z = true) (hn : 0 < n) (hb : BK g.bk 6 bv bm) : X_impl_ScrollGrid_2 [ptr 0, ptr 1, ptr 2, ptr 3, ptr 4] (blk [.int .i64 g.r, .int .i64 g.w, slO 5 g.cs.length, bv] :: (scB 0 b n z ++ ownB eC g.cs :: bm)) = some (.tuple #[], blk [.int .i64 g.r, .int .i64 g.w, slO 5 g.cs.length, slP (bm.length + 6) (keepP g.bk (scKp g b n) (5 * g.w).toNat) (keepL g.bk (scKp g b n) (5 * g.w).toNat)] :: (scB 0 b n z ++ ownB eC (scG g 0 b n z).cs :: (bm ++ [ownB eC (g.bk ++ scKp g b n)]))) := by
  rcases hb with ⟨rfl, rfl⟩ | ⟨rfl, rfl, hb0⟩
  · have ha := s_impl_scroll_keep g b n z _ _ hf ho hn (.inl ⟨rfl, rfl⟩)
    simp (maxSteps := 1000000) -implicitDefEqProofs [X_impl_ScrollGrid_2, retK_eq, ha]
  · have ha := s_impl_scroll_keep g b n z _ _ hf ho hn (.inr ⟨rfl, rfl, hb0⟩)
    simp (maxSteps := 1000000) -implicitDefEqProofs [X_impl_ScrollGrid_2, retK_eq, ha]
abbrev cgM (g : GridT) (t b n z : Int) : Mem := [blk [.int .i64 t], blk [.int .i64 g.r, .int .i64 g.w, frS eC g.cs, frS eC g.bk], blk [.int .i64 b], blk [.int .i64 n], blk [.int .i64 z]]
abbrev cgA (g : GridT) : List Value := [gridV g, .func (.func 84) #[] #[ptr 0, ptr 1, ptr 2, ptr 3, ptr 4], .func (.func 85) #[] #[ptr 0, ptr 2, ptr 3, ptr 4]]
theorem sc_len {g : GridT} {t b n z : Int} (hf : faultG g = 0) (ho : okSc g t b n z = true) : (scG g t b n z).cs.length = g.cs.length := by
  obtain ⟨A, K, W, hW, hA, hB, K0, l1, l2, l3, W1, W2, n0, n1, t0, t1, b1, r6, e1, e2, e3, e4, e5, e6, e7, e8, e9, _⟩ := sc_facts hf ho
  exact shL_len _ _ _ _ _ (by omega)
theorem cs_ne2 {g : GridT} (hf : faultG g = 0) : g.cs ≠ [] := by
  have := (grid_facts hf).2.2.2.2.2.2.2.1
  intro e
  rw [e] at this
  simp at this
theorem s_changedC_fault (g : GridT) (t b n z : Int) (hg : g.small) (hf : ¬ faultG g = 0) : X_impl_changed (cgA g) (cgM g t b n z) = some (resZ (faultG g), cgM g t b n z) := by
  have c1 := s_impl_GridFault g hg
  simp (maxSteps := 1000000) -implicitDefEqProofs [X_impl_changed, cf_impl_changed, retK_eq, c1, hf]
theorem s_changedC_bad (g : GridT) (t b n z : Int) (hg : g.small) (hf : faultG g = 0) (ho : okSc g t b n z = false) : X_impl_changed (cgA g) (cgM g t b n z) = some (resZ 3, cgM g t b n z) := by
  have c1 := s_impl_GridFault g hg
  have c2 := s_impl_ScrollGrid_1 g t b n z
  simp (maxSteps := 1000000) -implicitDefEqProofs [X_impl_changed, cf_impl_changed, retK_eq, c1, c2, hf, ho]
theorem s_changedC (g : GridT) (t b n z : Int) (hg : g.small) (hf : faultG g = 0) (ho : okSc g t b n z = true) (hk : ¬ (t = 0 ∧ 0 < n)) (hb : g.bk ≠ []) : X_impl_changed (cgA g) (cgM g t b n z) = some (resO (scG g t b n z) 5 6, cgM g t b n z ++ [ownB eC (scG g t b n z).cs, ownB eC g.bk]) := by
  have c1 := s_impl_GridFault g hg
  have c2 := s_impl_ScrollGrid_1 g t b n z
  have c3 := s_impl_Grid_clone g hg (cs_ne2 hf) hb
  have c4 := s_impl_ScrollGrid_2 g t b n z _ _ hf ho hk (.inl ⟨rfl, rfl⟩)
  have e1 := sc_len hf ho
  simp only [scB, List.cons_append, List.nil_append] at c4
  simp (maxSteps := 1000000) -implicitDefEqProofs [X_impl_changed, cf_impl_changed, retK_eq, c1, c2, c3, c4, hf, ho, e1]
  simp [scG, hk]
theorem s_changedC0 (g : GridT) (t b n z : Int) (hg : g.small) (hf : faultG g = 0) (ho : okSc g t b n z = true) (hk : ¬ (t = 0 ∧ 0 < n)) (hb : g.bk = []) : X_impl_changed (cgA g) (cgM g t b n z) = some (resE (scG g t b n z) 5, cgM g t b n z ++ [ownB eC (scG g t b n z).cs]) := by
  have c1 := s_impl_GridFault g hg
  have c2 := s_impl_ScrollGrid_1 g t b n z
  have c3 := s_impl_Grid_clone0 g hg (cs_ne2 hf) hb
  have c4 := s_impl_ScrollGrid_2 g t b n z _ _ hf ho hk (.inr ⟨rfl, rfl, hb⟩)
  have e1 := sc_len hf ho
  simp only [scB, List.cons_append, List.nil_append] at c4
  simp (maxSteps := 1000000) -implicitDefEqProofs [X_impl_changed, cf_impl_changed, retK_eq, c1, c2, c3, c4, hf, ho, e1]
  simp [scG, hk]
abbrev resPk (g : GridT) (a b : Nat) (pre : List CellT) : Value := .agg #[.int .i64 0, .int .i64 g.r, .int .i64 g.w, slO a g.cs.length, slP b pre g.bk]
theorem scG_bk (g : GridT) (b n z : Int) (hn : 0 < n) : (scG g 0 b n z).bk = keepL g.bk (scKp g b n) (5 * g.w).toNat := by simp [scG, hn]
theorem s_changedCK (g : GridT) (b n z : Int) (hg : g.small) (hf : faultG g = 0) (ho : okSc g 0 b n z = true) (hn : 0 < n) : X_impl_changed (cgA g) (cgM g 0 b n z) = some (resPk (scG g 0 b n z) 5 6 (keepP g.bk (scKp g b n) (5 * g.w).toNat), cgM g 0 b n z ++ [ownB eC (scG g 0 b n z).cs, ownB eC (g.bk ++ scKp g b n)]) := by
  have c1 := s_impl_GridFault g hg
  have c2 := s_impl_ScrollGrid_1 g 0 b n z
  have e1 := sc_len hf ho
  have e2 := scG_bk g b n z hn
  by_cases hb : g.bk = []
  · have c3 := s_impl_Grid_clone0 g hg (cs_ne2 hf) hb
    have c4 := s_impl_ScrollGrid_2K g b n z _ _ hf ho hn (.inr ⟨rfl, rfl, hb⟩)
    simp only [scB, List.cons_append, List.nil_append, ← e2] at c4
    generalize keepP g.bk (scKp g b n) (5 * g.w).toNat = kP at *
    simp (maxSteps := 1000000) -implicitDefEqProofs [X_impl_changed, cf_impl_changed, retK_eq, c1, c2, c3, c4, hf, ho, e1]
    simp [scG]
  · have c3 := s_impl_Grid_clone g hg (cs_ne2 hf) hb
    have c4 := s_impl_ScrollGrid_2K g b n z _ _ hf ho hn (.inl ⟨rfl, rfl⟩)
    simp only [scB, List.cons_append, List.nil_append, ← e2] at c4
    generalize keepP g.bk (scKp g b n) (5 * g.w).toNat = kP at *
    simp (maxSteps := 1000000) -implicitDefEqProofs [X_impl_changed, cf_impl_changed, retK_eq, c1, c2, c3, c4, hf, ho, e1]
    simp [scG]
abbrev scA (g : GridT) (t b n z : Int) : List Value := [gridV g, .int .i64 t, .int .i64 b, .int .i64 n, .int .i64 z]
theorem s_impl_ScrollGrid_fault (g : GridT) (t b n z : Int) (hg : g.small) (hf : ¬ faultG g = 0) : X_impl_ScrollGrid (scA g t b n z) [] = some (resZ (faultG g), []) := by
  have h := s_changedC_fault g t b n z hg hf
  simp (maxSteps := 1000000) -implicitDefEqProofs [X_impl_ScrollGrid, retK_eq, h]
theorem s_impl_ScrollGrid_bad (g : GridT) (t b n z : Int) (hg : g.small) (hf : faultG g = 0) (ho : okSc g t b n z = false) : X_impl_ScrollGrid (scA g t b n z) [] = some (resZ 3, []) := by
  have h := s_changedC_bad g t b n z hg hf ho
  simp (maxSteps := 1000000) -implicitDefEqProofs [X_impl_ScrollGrid, retK_eq, h]
theorem s_impl_ScrollGrid (g : GridT) (t b n z : Int) (hg : g.small) (hf : faultG g = 0) (ho : okSc g t b n z = true) (hk : ¬ (t = 0 ∧ 0 < n)) (hb : g.bk ≠ []) : X_impl_ScrollGrid (scA g t b n z) [] = some (resO (scG g t b n z) 0 1, [ownB eC (scG g t b n z).cs, ownB eC g.bk]) := by
  have h := s_changedC g t b n z hg hf ho hk hb
  simp (maxSteps := 1000000) -implicitDefEqProofs [X_impl_ScrollGrid, retK_eq, h]
theorem s_impl_ScrollGrid0 (g : GridT) (t b n z : Int) (hg : g.small) (hf : faultG g = 0) (ho : okSc g t b n z = true) (hk : ¬ (t = 0 ∧ 0 < n)) (hb : g.bk = []) : X_impl_ScrollGrid (scA g t b n z) [] = some (resE (scG g t b n z) 0, [ownB eC (scG g t b n z).cs]) := by
  have h := s_changedC0 g t b n z hg hf ho hk hb
  simp (maxSteps := 1000000) -implicitDefEqProofs [X_impl_ScrollGrid, retK_eq, h]
theorem s_impl_ScrollGridK (g : GridT) (b n z : Int) (hg : g.small) (hf : faultG g = 0) (ho : okSc g 0 b n z = true) (hn : 0 < n) : X_impl_ScrollGrid (scA g 0 b n z) [] = some (resPk (scG g 0 b n z) 0 1 (keepP g.bk (scKp g b n) (5 * g.w).toNat), [ownB eC (scG g 0 b n z).cs, ownB eC (g.bk ++ scKp g b n)]) := by
  have h := s_changedCK g b n z hg hf ho hn
  generalize keepP g.bk (scKp g b n) (5 * g.w).toNat = kP at *
  simp (maxSteps := 1000000) -implicitDefEqProofs [X_impl_ScrollGrid, retK_eq, h]
end Go.Ab
