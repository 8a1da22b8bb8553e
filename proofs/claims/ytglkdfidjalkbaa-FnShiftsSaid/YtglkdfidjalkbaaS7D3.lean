/- What the functions of the program answer, for all arguments that the theorems name as conditions. -/
import Derived.Test.YtglkdfidjalkbaaS7D2
namespace Go.Ab
set_option linter.unusedSimpArgs false
set_option linter.unusedVariables false
set_option maxHeartbeats 8000000

/-! ## Grids that are bent -/
abbrev gridD (g : GridT) (bv : Value) : Value := .agg #[.int .i64 g.r, .int .i64 g.w, slO 1 g.cs.length, bv]
def GridT.mid (g : GridT) : Prop := g.cs.length ≤ 100 ∧ g.bk.length ≤ 500
theorem s_l3Bent (l : List Int) (a : Int) (hl : bytesOk l) (ha0 : 0 ≤ a) (ha : a < 10000000) : ∃ (g : GridT) (bv : Value) (bm : Mem) (a' : Int), BN g.bk 2 bv bm ∧ g.mid ∧ a ≤ a' ∧ a' ≤ a + 20000 ∧ X_spec_l3Bent [pt 0] [srcM l a] = some (gridD g bv, srcM l a' :: ownB eC g.cs :: bm) := by
  obtain ⟨r, w, cs, bk, bv, bm, a1, hb, hbl, hcl, hcp, w0, w1, a0, a2, h⟩ := s_l3Draw l a hl ha0 (by omega)
  have hn := s_l1Next l a1 14 hl ⟨by omega, by omega⟩
  by_cases v0 : nx l a1 14 = 0
  · have hp := s_pick3 l (a1 + 1) 0 7 2 hl ⟨by omega, by omega⟩
    rw [v0] at hn
    refine ⟨⟨pk l (a1 + 1) [0, 7, 2], w, cs, bk⟩, bv, bm, a1 + 2, hb, ⟨hcl, by simp only; omega⟩, by omega, by omega, ?_⟩
    rw [show a1 + 1 + 1 = a1 + 2 by omega] at hp
    rcases hb with ⟨rfl, rfl, _⟩ | ⟨rfl, rfl, _⟩ <;> simp (maxSteps := 400000) -implicitDefEqProofs [X_spec_l3Bent, retK_eq, h, hn, hp]
  by_cases v1 : nx l a1 14 = 1
  · have hp := s_pick3 l (a1 + 1) 31 127 97 hl ⟨by omega, by omega⟩
    have hp2 := s_pick3 l (a1 + 1 + 1) 32 (-1) 0 hl ⟨by omega, by omega⟩
    rw [v1] at hn
    refine ⟨⟨r, w, cs.set 0 ⟨pk l (a1 + 1) [31, 127, 97], pk l (a1 + 1 + 1) [32, -1, 0]⟩, bk⟩, bv, bm, a1 + 1 + 1 + 1, hb, ⟨by simp only [List.length_set]; exact hcl, by simp only; omega⟩, by omega, by omega, ?_⟩
    have hx := fun n o cc => ixa_sl (sz := 2) .i64 (n := n) (o := o) (len := cs.length) (c := cc) (j := (0 : Int)) (by omega) (by omega)
    have hy := lay_setC cs 0 ⟨pk l (a1 + 1) [31, 127, 97], pk l (a1 + 1 + 1) [32, -1, 0]⟩ hcp
    generalize pk l (a1 + 1) [31, 127, 97] = p1 at *
    generalize pk l (a1 + 1 + 1) [32, -1, 0] = p2 at *
    have b1 : 2 ≤ cs.length * 2 := by omega
    generalize a1 + 1 + 1 + 1 = a4 at *
    generalize a1 + 1 + 1 = a3 at *
    simp at hx hy
    rcases hb with ⟨rfl, rfl, _⟩ | ⟨rfl, rfl, _⟩ <;> simp (maxSteps := 400000) -implicitDefEqProofs [X_spec_l3Bent, retK_eq, h, hn, hp, hp2, hx, hy, b1]
  by_cases v2 : nx l a1 14 = 2
  · have hc := s_l3DrawCell l (a1 + 1) hl ⟨by omega, by omega⟩ ⟨by omega, by omega⟩
    rw [v2] at hn
    refine ⟨⟨r, w, cs, bk ++ [dcC l (a1 + 1)]⟩, slO 2 (bk ++ [dcC l (a1 + 1)]).length, [ownB eC (bk ++ [dcC l (a1 + 1)])], a1 + 1 + 2, .inr ⟨rfl, rfl, by simp⟩, ⟨hcl, by simp; omega⟩, by omega, by omega, ?_⟩
    generalize dcC l (a1 + 1) = c at *
    have q1 := fun m k => apL_none (m := m) (sz := 2) (bytes := 16) (n := 1) (k := k) (c := 1) (by omega) (by omega) (by omega)
    have q2 := fun m n k cc => apL_sl (m := m) (sz := 2) (bytes := 16) (n := n) (o := 0) (len := bk.length) (c := cc) (n2 := k) (o2 := 0) (len2 := 1) (c2 := 1) (by omega) (by omega)
    have q3 := fun m n cs k => apB_own (E := eC) (m := m) (l := bk) (n := n) (sz := 2) (cs := cs) (k := k) rfl
    have q4 : rdM (some ⟨[.int .i64 c.c, .int .i64 c.a], 2, true, true⟩) 0 2 = some [.int .i64 c.c, .int .i64 c.a] := rfl
    have hk : (⟨cellsE eC bk ++ [.int .i64 c.c, .int .i64 c.a], 2, true, true⟩ : Blk) = ownB eC (bk ++ [c]) := by
      rw [← mk_own2 eC _ _ 2 rfl]
      rfl
    have hk0 : (⟨[.int .i64 c.c, .int .i64 c.a], 2, true, true⟩ : Blk) = ownB eC [c] := rfl
    generalize a1 + 1 + 2 = a4 at *
    rcases hb with ⟨rfl, rfl, rfl⟩ | ⟨rfl, rfl, _⟩ <;> simp (maxSteps := 400000) -implicitDefEqProofs [X_spec_l3Bent, retK_eq, h, hn, hc, q1, q2, q3, q4, hk, hk0]
  by_cases v3 : nx l a1 14 = 3
  · obtain ⟨N, hN⟩ := Int.eq_ofNat_of_zero_le (show 0 ≤ 6 * w by omega)
    have hbn := s_spec_l3Blanks N 0 (by omega)
    have hw : IntKind.i64.wrap (6 * w) = (N : Nat) := by rw [hN, wrap_i64 (by omega) (by omega)]
    rw [v3] at hn
    refine ⟨⟨r, w, cs, List.replicate N bl0⟩, slO 2 (List.replicate N bl0).length, [ownB eC (List.replicate N bl0)], a1 + 1, .inr ⟨rfl, rfl, fun e => ?_⟩, ⟨hcl, by simp; omega⟩, by omega, by omega, ?_⟩
    · have := congrArg List.length e
      simp at this
      omega
    · rw [List.length_replicate]
      rcases hb with ⟨rfl, rfl, rfl⟩ | ⟨rfl, rfl, _⟩ <;> simp (maxSteps := 400000) -implicitDefEqProofs [X_spec_l3Bent, retK_eq, h, hn, hbn, hw]
  · refine ⟨⟨r, w, cs, bk⟩, bv, bm, a1 + 1, hb, ⟨hcl, by simp only; omega⟩, by omega, by omega, ?_⟩
    rcases hb with ⟨rfl, rfl, _⟩ | ⟨rfl, rfl, _⟩ <;> simp (maxSteps := 400000) -implicitDefEqProofs [X_spec_l3Bent, retK_eq, h, hn, v0, v1, v2, v3]
theorem mid_small {g : GridT} (h : g.mid) : g.small := ⟨by have := h.1; omega, by have := h.2; omega⟩
/-- A drawn grid, frozen. -/
theorem fz_gd (g : GridT) (bv : Value) (bm : Mem) (h : BN g.bk 1 bv bm) (k : Nat) : fz (k + 3) (ownB eC g.cs :: bm) bv = some (frS eC g.bk) := by
  rcases h with ⟨rfl, rfl, h⟩ | ⟨rfl, rfl, h⟩
  · rw [h]
    rfl
  · simp
end Go.Ab
