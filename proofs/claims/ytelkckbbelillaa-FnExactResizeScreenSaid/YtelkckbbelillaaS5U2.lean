/- What the functions of the program answer, for all arguments that the theorems name as conditions. -/
import Derived.Test.YtelkckbbelillaaS5U1
namespace Go.Ab
set_option linter.unusedSimpArgs false
set_option linter.unusedVariables false
set_option maxHeartbeats 4000000

/-! ## ResizeScreen of the program -/
theorem s_impl_Screen_resized (s : ScrT) (rows v : Int) (hs : s.small) (hf : faultS s = 0) (ho : szB rows v = true) : X_impl_Screen_resized [scrV s, .int .i64 rows, .int .i64 v] [] = some (.agg (scrL (rsS s rows v) (slQ 0 0 (reG s.g rows v).cs.length (reC s.g rows v).length) (slO 1 (reB s.g v).length) (slQ 2 0 v.toNat (s.tabs.length + (v.toNat - s.tabs.length))) (slO 3 s.sets.length)).toArray, [ownB eC (reC s.g rows v), ownB eC (reB s.g v), ownB eB (s.tabs ++ tabL s.tabs.length (v.toNat - s.tabs.length)), ownB eI6 s.sets]) := by
  obtain ⟨hg, _, _⟩ := scr_facts hf
  obtain ⟨t1, t2, r1, r2, r3, r4⟩ := scr_tabs hf
  obtain ⟨R, W, S, V, e, g1, g2, g3, g4, g5, g6, g7, g8, g9, g10, g11, g12, g13, g14, g15, g16⟩ := re_facts hg ho
  have hcs : s.g.cs ≠ [] := fun h => by
    have := Nat.mul_le_mul g5 g7
    rw [h] at g13
    simp at g13
    omega
  have htb : s.tabs ≠ [] := fun h => by rw [h, g2] at t1; simp at t1; omega
  have hst : s.sets ≠ [] := fun h => by rw [h] at t2; simp at t2
  obtain ⟨bv, bm, hb, hc⟩ := s_Screen_clone s hs hcs htb hst
  have c2 := s_resized s.g rows v hg ho
  have htl : s.tabs.length = W := by omega
  have hL := l_Screen_resized s (rsS s rows v) (scrV s) rows rfl (fun π => by simp) V g12 (by omega) (reC s.g rows v).length (reG s.g rows v).cs.length (reB s.g v).length (reC s.g rows v) (reB s.g v) s.sets (V - s.tabs.length) s.tabs QQ (by omega) rfl (by unfold QQ; omega)
  have hv : v.toNat = V := by omega
  rw [hv, ← hL, g4]
  have w1 : IntKind.i64.wrap (rows - 1) = rows - 1 := wrap_i64 (by omega) (by omega)
  have w2 : IntKind.i64.wrap ((V : Int) - 1) = (V : Int) - 1 := wrap_i64 (by omega) (by omega)
  rw [g4] at c2
  generalize reC s.g rows V = RC at *
  generalize reB s.g V = RB at *
  generalize hRG : reG s.g rows V = RG at *
  have hr : RG.r = rows := by rw [← hRG]; rfl
  have hw : RG.w = (V : Int) := by rw [← hRG]; rfl
  rcases hb with ⟨hb1, rfl, rfl⟩ | ⟨hb1, rfl, rfl⟩
  · simp (maxSteps := 800000) -implicitDefEqProofs [X_impl_Screen_resized, cutK_eq, hc, c2, w1, w2, rsS, hRG, hr, hw]
    simp only [scrL, scrV, scrT, hr, hw]
  · simp (maxSteps := 800000) -implicitDefEqProofs [X_impl_Screen_resized, cutK_eq, hc, c2, w1, w2, rsS, hRG, hr, hw]
    simp only [scrL, scrV, scrT, hr, hw]
end Go.Ab
