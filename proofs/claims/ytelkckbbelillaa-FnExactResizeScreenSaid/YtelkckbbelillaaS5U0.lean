/- What the functions of the program answer, for all arguments that the theorems name as conditions. -/
import Derived.Test.YtelkckbbelillaaS5G4
import Derived.Test.YtelkckbbelillaaS5G5
import Derived.Test.YtelkckbbelillaaS5G30
import Derived.Test.YtelkckbbelillaaFD
namespace Go.Ab
set_option linter.unusedSimpArgs false
set_option linter.unusedVariables false
set_option maxHeartbeats 4000000

/-! ## ResizeScreen of the program -/
def tabB (x : Nat) : Bool := decide (0 < x) && (((x : Int).tmod 8) == 0)
def tabL (a d : Nat) : List Bool := (List.range' a d).map tabB
theorem tabL_succ (a d : Nat) : tabL a (d + 1) = tabB a :: tabL (a + 1) d := by simp [tabL, List.range'_succ]
@[simp] theorem tabL_len (a d : Nat) : (tabL a d).length = d := by simp [tabL]
theorem s_isTab (n : Nat) : X_impl_isTab [.int .i64 n] [] = some (.bool (tabB n), []) := by
  by_cases h : 0 < n <;> simp -implicitDefEqProofs [X_impl_isTab, retK_eq, h, tabB]
theorem scr_facts {s : ScrT} (hf : faultS s = 0) : faultG s.g = 0 ∧ rngS s = true ∧ frmS s = true := by
  unfold faultS at hf
  split at hf
  · rename_i h1
    split at hf
    · rename_i h2
      split at hf
      · rename_i h3; exact ⟨h1, h2, h3⟩
      · cases hf
    · cases hf
  · rename_i h1; exact absurd hf h1
theorem scr_tabs {s : ScrT} (hf : faultS s = 0) : (s.tabs.length : Int) = s.g.w ∧ s.sets.length = 2 ∧ 0 ≤ s.row ∧ s.row < s.g.r ∧ 0 ≤ s.col ∧ s.col < s.g.w := by
  obtain ⟨h1, h2, h3⟩ := scr_facts hf
  have g := grid_facts h1
  unfold rngS at h2
  unfold frmS at h3
  simp only [Bool.and_eq_true, setB, plB, inB, decide_eq_true_eq] at h2 h3
  have w1 : IntKind.i64.wrap (s.g.r - 1) = s.g.r - 1 := wrap_i64 (by omega) (by omega)
  have w2 : IntKind.i64.wrap (s.g.w - 1) = s.g.w - 1 := wrap_i64 (by omega) (by omega)
  rw [w1, w2] at h2
  exact ⟨h3.2.1, h2.2.2.2.2.2.1.1, h2.1.1.1, by omega, h2.1.2.1, by omega⟩
theorem s_Screen_clone (s : ScrT) (hs : s.small) (h1 : s.g.cs ≠ []) (h2 : s.tabs ≠ []) (h3 : s.sets ≠ []) : ∃ bv bm, ((s.g.bk = [] ∧ bv = roS 0 [] ∧ bm = []) ∨ (s.g.bk ≠ [] ∧ bv = slO 1 s.g.bk.length ∧ bm = [ownB eC s.g.bk])) ∧ X_impl_Screen_clone [scrV s] [] = some (.agg (scrL s (slO 0 s.g.cs.length) bv (slO (1 + bm.length) s.tabs.length) (slO (2 + bm.length) s.sets.length)).toArray, ownB eC s.g.cs :: (bm ++ [ownB eB s.tabs, ownB eI6 s.sets])) := by
  have c2 := fun m => cloneV_frS eB eB_hard (sz := 1) rfl m s.tabs h2 hs.2.1
  have c3 := fun m => cloneV_frS eI6 (eI_hard .i64) (sz := 1) rfl m s.sets h3 hs.2.2
  by_cases hb : s.g.bk = []
  · have c1 := s_impl_Grid_clone0 s.g hs.1 h1 hb
    refine ⟨roS 0 [], [], .inl ⟨hb, rfl, rfl⟩, ?_⟩
    simp (maxSteps := 400000) -implicitDefEqProofs [X_impl_Screen_clone, retK_eq, c1, c2, c3]
  · have c1 := s_impl_Grid_clone s.g hs.1 h1 hb
    refine ⟨slO 1 s.g.bk.length, [ownB eC s.g.bk], .inr ⟨hb, rfl, rfl⟩, ?_⟩
    simp (maxSteps := 400000) -implicitDefEqProofs [X_impl_Screen_clone, retK_eq, c1, c2, c3]
end Go.Ab
