/- What the functions of the program answer, for all arguments that the theorems name as conditions. -/
import Derived.Test.YtglkdfidjalkbaaS7G25c
import Derived.Test.YtglkdfidjalkbaaS7G24
import Derived.Test.YtglkdfidjalkbaaS7G25a
namespace Go.Ab
set_option linter.unusedSimpArgs false
set_option linter.unusedVariables false
set_option maxHeartbeats 8000000

/-! ## Keeping a row -/
abbrev deadC (l : List CellT) : Blk := ⟨cellsE eC l, 2, true, false⟩
def kp1 (bk row : List CellT) (W : Nat) : List CellT := if 5 * W < bk.length + row.length then (bk ++ row).drop W else bk ++ row
theorem s_spec_l3Keep (g : GridT) (row : List CellT) (W : Nat) (hW : g.w = W) (hw : W ≤ 12) (h0 : 2 ≤ W) (hr : row.length = W) (hb : g.bk.length ≤ 60) : X_spec_l3Keep [ptr 0, slO 1 W] [blk [.int .i64 g.r, .int .i64 g.w, slO 2 g.cs.length, slO 3 g.bk.length], ownB eC row, ownB eC g.cs, ownB eC g.bk] = some (.tuple #[], [blk [.int .i64 g.r, .int .i64 g.w, slO 2 g.cs.length, slO 4 (kp1 g.bk row W).length], ownB eC row, ownB eC g.cs, deadC g.bk, ownB eC (kp1 g.bk row W)]) := by
  have p1 := fun m n k c => apL_sl (m := m) (sz := 2) (bytes := 16) (n := n) (o := 0) (len := g.bk.length) (c := c) (n2 := k) (o2 := 0) (len2 := W) (c2 := W) (by omega) (by omega)
  have p2 := rdM_own eC row (W * 2) (by rw [hr]; rfl)
  have p3 := fun m n cs k => apB_own (E := eC) (m := m) (l := g.bk) (n := n) (sz := 2) (cs := cs) (k := k) rfl
  have w5 : IntKind.i64.wrap (5 * (W : Int)) = ((5 * W : Nat) : Int) := by rw [wrap_i64 (by omega) (by omega)]; simp
  by_cases hc : 5 * W < g.bk.length + W
  · have hk : kp1 g.bk row W = (g.bk ++ row).drop W := by unfold kp1; rw [hr, if_pos hc]
    have hl : (kp1 g.bk row W).length = g.bk.length + W - W := by rw [hk]; simp; omega
    have s1 := fun m n (hm : esOf m n = some 2) => sl_own (m := m) (sz := 2) (n := n) (o := 0) (len := g.bk.length + W) (c := g.bk.length + W) (lo := some (.int .i64 (W : Nat))) (hi := none) hm (bnd_nat _ _ _) rfl (by omega) (by omega) (by omega)
    have p4 := fun m n k o c c2 => apL_sl (m := m) (sz := 2) (bytes := 16) (n := n) (o := 0) (len := 0) (c := c) (n2 := k) (o2 := o) (len2 := g.bk.length + W - W) (c2 := c2) (by omega) (by omega)
    have p5 : rdM (some (ownB eC (g.bk ++ row))) (W * 2) ((g.bk.length + W - W) * 2) = some (cellsE eC (kp1 g.bk row W)) := by
      have := rd_own eC (m := [ownB eC (g.bk ++ row)]) (n := 0) (a := W) (k := g.bk.length + W - W) (l := g.bk ++ row) rfl (by simp; omega)
      rw [rd_rdM] at this
      rw [hk]
      refine this.trans ?_
      congr 2
      rw [List.take_of_length_le]
      simp
      omega
    have hc' : ((5 * W : Nat) : Int) < (g.bk.length : Int) + W := by omega
    simp only [Nat.add_sub_cancel] at s1 p4 p5 hl
    generalize kp1 g.bk row W = k1 at *
    generalize 5 * W = W5 at *
    simp (maxSteps := 400000) -implicitDefEqProofs [X_spec_l3Keep, retK_eq, p1, p2, p3, w5, hc', hc, s1, p4, p5, hW, esOf, hl]
  · have hk : kp1 g.bk row W = g.bk ++ row := by unfold kp1; rw [hr, if_neg hc]
    have hl : (kp1 g.bk row W).length = g.bk.length + W := by rw [hk]; simp; omega
    have hc' : ¬ ((5 * W : Nat) : Int) < (g.bk.length : Int) + W := by omega
    rw [hl, hk]
    generalize 5 * W = W5 at *
    simp (maxSteps := 400000) -implicitDefEqProofs [X_spec_l3Keep, retK_eq, p1, p2, p3, w5, hc', hc, hW]
end Go.Ab
