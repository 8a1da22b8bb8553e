/- What the functions of the program answer, for all arguments that the theorems name as conditions. -/
import Derived.Test.YtelkckbbelillaaS5U5
namespace Go.Ab
set_option linter.unusedSimpArgs false
set_option linter.unusedVariables false
set_option maxHeartbeats 4000000

theorem s_spec_ResizeScreen_bad (s : ScrT) (rows v : Int) (hs : s.small) (hf : ¬ faultS s = 0) : X_spec_ResizeScreen (rsA s rows v) [] = some (srB (faultS s), []) := by
  have c1 := s_spec_l5Fault s hs []
  simp (maxSteps := 1000000) -implicitDefEqProofs [X_spec_ResizeScreen, retK_eq, c1, s_spec_l5Bad, hf]
theorem s_spec_ResizeScreen_3 (s : ScrT) (rows v : Int) (hs : s.small) (hf : faultS s = 0) (ho : szB rows v = false) : X_spec_ResizeScreen (rsA s rows v) [] = some (srB 3, []) := by
  have c1 := s_spec_l5Fault s hs []
  simp (maxSteps := 1000000) -implicitDefEqProofs [X_spec_ResizeScreen, retK_eq, c1, s_spec_l5Bad, s_spec_l3Size, ho, hf]
theorem rsT_eq (s : ScrT) (V : Nat) : s.tabs.take (min V s.tabs.length) ++ tabL (min V s.tabs.length) (V - min V s.tabs.length) = rsT s V := by
  unfold rsT
  rcases Nat.le_total V s.tabs.length with h | h
  · rw [Nat.min_eq_left h, Nat.sub_self, Nat.sub_eq_zero_of_le h]
    simp [tabL]
  · rw [Nat.min_eq_right h, List.take_of_length_le (Nat.le_refl _), List.take_of_length_le]
    simp
    omega
theorem rsT_len (s : ScrT) (V : Nat) : (rsT s V).length = V := by
  simp [rsT]
  omega
theorem s_spec_ResizeScreen (s : ScrT) (rows v : Int) (hs : s.small) (hf : faultS s = 0) (ho : szB rows v = true) : ∃ bv bm, ((reB s.g v = [] ∧ bv = .slice none 0 0 ∧ bm = []) ∨ (reB s.g v ≠ [] ∧ bv = slO 1 (reB s.g v).length ∧ bm = [ownB eC (reB s.g v)])) ∧ X_spec_ResizeScreen (rsA s rows v) [] = some (srO (rsS s rows v) (slO 0 (reG s.g rows v).cs.length) bv (slO (1 + bm.length) v.toNat) (slO (2 + bm.length) s.sets.length), ownB eC (reG s.g rows v).cs :: (bm ++ [ownB eB (rsT s v.toNat), ownB eI6 s.sets])) := by
  obtain ⟨hg, _, _⟩ := scr_facts hf
  obtain ⟨t1, t2, r1, r2, r3, r4⟩ := scr_tabs hf
  have c1 := s_spec_l5Fault s hs []
  have c2 := s_spec_l5Copy s hs
  obtain ⟨bv, bm, hb, c3⟩ := s_spec_l3Resize s.g rows v hg ho
  obtain ⟨R, W, S, V, e, g1, g2, rfl, rfl, g5, g6, g7, g8, g9, g10, g11, g12, g13, g14, g15, g16⟩ := re_facts hg ho
  have htl : s.tabs.length = W := by omega
  have hv : (V : Int).toNat = V := by omega
  have w1 : IntKind.i64.wrap ((S : Int) - 1) = (S : Int) - 1 := wrap_i64 (by omega) (by omega)
  have hmn : min (V : Int) s.g.w = ((min V W : Nat) : Int) := by omega
  have c4 := s_spec_l5Tabs (min V W) V g12 (by omega)
  have hT := rsT_eq s V
  have hTl := rsT_len s V
  rw [htl] at hT
  have s1 := fun m => sl_frS eB (m := m) (sz := 1) rfl (l := s.tabs) (lo := none) (hi := some (.int .i64 ((min V W : Nat) : Int))) (a := 0) (b := min V W) rfl (bnd_nat .i64 (min V W) _) (by omega) (by omega)
  simp only [List.drop_zero, Nat.sub_zero] at s1
  have e1 : (s.tabs.take (min V W)).length = min V W := by simp; omega
  have e2 : (tabL (min V W) (V - min V W)).length = V - min V W := by simp
  have hMD : min V W + (V - min V W) = V := by omega
  rw [hv]
  unfold rsS
  rw [hv]
  generalize min V W = M at *
  generalize V - M = D at *
  generalize tabL M D = T2 at *
  generalize s.tabs.take M = T1 at *
  generalize rsT s V = TT at *
  have p1 := fun m n c => apL_frS (E := eB) (m := m) (sz := 1) (bytes := 1) (n := n) (o := 0) (len := 0) (c := c) (l := T1) rfl (by omega) (by omega)
  have p2 := fun m n o c n2 o2 c2 => apL_sl (m := m) (sz := 1) (bytes := 1) (n := n) (o := o) (len := M) (c := c) (n2 := n2) (o2 := o2) (len2 := D) (c2 := c2) (by omega) (by omega)
  have k1 : ∀ l, (⟨cellsE eB l, 1, true, true⟩ : Blk) = ownB eB l := fun l => rfl
  have p3 := fun m n cs k => apB_own (E := eB) (m := m) (l := T1) (n := n) (sz := 1) (cs := cs) (k := k) rfl
  rw [e1] at p1 p3
  have hrm : rdM (some (ownB eB T2)) 0 D = some (cellsE eB T2) := rdM_own eB _ _ (by rw [e2]; simp)
  have hk : (⟨cellsE eB T1 ++ cellsE eB T2, 1, true, true⟩ : Blk) = ownB eB TT := by
    rw [← cellsE_append, hT]; rfl
  have hr : (reG s.g S V).r = S := rfl
  have hw : (reG s.g S V).w = V := rfl
  rcases hb with ⟨hb1, rfl, rfl⟩ | ⟨hb1, rfl, rfl⟩
  · refine ⟨_, _, .inl ⟨hb1, rfl, rfl⟩, ?_⟩
    have c5 := s_spec_l5Go0 { s with g := reG s.g S V, top := 0, bot := S - 1 } s.row s.col S V (reG s.g S V).cs.length V s.sets.length (reG s.g S V).cs TT s.sets rfl rfl rfl rfl (by omega) (by omega) (by omega) (by omega) (by omega) (by omega)
    generalize reG s.g S V = RG at *
    generalize reB s.g V = RB at *
    simp only [scrL, scrT, hr, hw] at c5
    simp (maxSteps := 2000000) -implicitDefEqProofs [X_spec_ResizeScreen, retK_eq, c1, c2, c3, c4, s_spec_l3Size, s_spec_l1Min, ho, hf, w1, hmn, s1, p1, p2, p3, k1, hrm, hk, c5, hr, hw, hMD]
  · refine ⟨_, _, .inr ⟨hb1, rfl, rfl⟩, ?_⟩
    have c5 := s_spec_l5Go { s with g := reG s.g S V, top := 0, bot := S - 1 } s.row s.col S V (reG s.g S V).cs.length (reB s.g V).length V s.sets.length (reG s.g S V).cs (reB s.g V) TT s.sets rfl rfl rfl rfl (by omega) (by omega) (by omega) (by omega) (by omega) (by omega)
    generalize reG s.g S V = RG at *
    generalize reB s.g V = RB at *
    simp only [scrL, scrT, hr, hw] at c5
    simp (maxSteps := 2000000) -implicitDefEqProofs [X_spec_ResizeScreen, retK_eq, c1, c2, c3, c4, s_spec_l3Size, s_spec_l1Min, ho, hf, w1, hmn, s1, p1, p2, p3, k1, hrm, hk, c5, hr, hw, hMD]
end Go.Ab
