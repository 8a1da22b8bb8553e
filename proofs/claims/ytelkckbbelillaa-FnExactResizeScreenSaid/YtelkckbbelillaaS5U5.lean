/- What the functions of the program answer, for all arguments that the theorems name as conditions. -/
import Derived.Test.YtelkckbbelillaaS5U4
namespace Go.Ab
set_option linter.unusedSimpArgs false
set_option linter.unusedVariables false
set_option maxHeartbeats 4000000

theorem l_spec_l5Tabs (V : Nat) (hV : V ≤ 12) : ∀ (d : Nat) (T : List Bool) (i q : Nat), T.length ≤ i → i ≤ 12 → V - i = d → d < q →
    L_spec_l5Tabs 0 q 0 [.int .i64 V, slO 0 T.length, .int .i64 i] [ownB eB T] = some (slO 0 (T.length + d), [ownB eB (T ++ tabL i d)]) := by
  intro d
  induction d with
  | zero =>
    intro T i q hT hi hd hq
    obtain ⟨q, rfl⟩ : ∃ n, q = n + 1 := ⟨q - 1, by omega⟩
    have hlt : ¬ (i : Int) < V := by omega
    have e0 : tabL i 0 = [] := rfl
    rw [e0, List.append_nil, Nat.add_zero]
    simp (maxSteps := 400000) -implicitDefEqProofs [L_spec_l5Tabs, retK_eq, hlt]
  | succ d ih =>
    intro T i q hT hi hd hq
    obtain ⟨q, rfl⟩ : ∃ n, q = n + 1 := ⟨q - 1, by omega⟩
    have hlt : (i : Int) < V := by omega
    have h := ih (T ++ [tabB i]) (i + 1) q (by simp; omega) (by omega) (by omega) (by omega)
    have hw := wrap_next (n := i) (by omega)
    rw [tabL_succ]
    have e1 : T ++ tabB i :: tabL (i + 1) d = T ++ [tabB i] ++ tabL (i + 1) d := by simp
    have e2 : (T ++ [tabB i]).length = T.length + 1 := by simp
    rw [e1, show T.length + (d + 1) = T.length + 1 + d by omega]
    rw [e2] at h
    rw [← h]
    have p1 := fun m n o c n2 o2 c2 => apL_sl (m := m) (sz := 1) (bytes := 1) (n := n) (o := o) (len := T.length) (c := c) (n2 := n2) (o2 := o2) (len2 := 1) (c2 := c2)
    have p2 := fun m n cs k => apB_own (E := eB) (m := m) (l := T) (n := n) (sz := 1) (cs := cs) (k := k) rfl
    have hb : T.length + 1 < 1000000000 := by omega
    have hrm : ∀ b : Bool, rdM (some ⟨[.bool b], 1, true, true⟩) 0 1 = some [.bool b] := fun b => rfl
    have k2 : (⟨cellsE eB T ++ [.bool (tabB i)], 1, true, true⟩ : Blk) = ownB eB (T ++ [tabB i]) := mk_own2 eB T [tabB i] 1 rfl
    unfold tabB at k2 h ⊢
    by_cases hz : 0 < i
    · simp only [hz, decide_true, Bool.true_and] at k2 ⊢
      simp (maxSteps := 400000) -implicitDefEqProofs [L_spec_l5Tabs, cutK_eq, hlt, hw, p1, p2, hb, hrm, hz, k2]
    · simp only [hz, decide_false, Bool.false_and] at k2 ⊢
      simp (maxSteps := 400000) -implicitDefEqProofs [L_spec_l5Tabs, cutK_eq, hlt, hw, p1, p2, hb, hrm, hz, k2]
theorem s_spec_l5Tabs (i V : Nat) (hV : V ≤ 12) (hi : i ≤ 12) : X_spec_l5Tabs [.int .i64 i, .int .i64 V] [] = some (slO 0 (V - i), [ownB eB (tabL i (V - i))]) := by
  have h := l_spec_l5Tabs V hV (V - i) [] i QQ (by simp) hi rfl (by unfold QQ; omega)
  simp at h
  simp (maxSteps := 400000) -implicitDefEqProofs [X_spec_l5Tabs, cutK_eq]
  exact h
theorem s_spec_l5Go (S : ScrT) (row col rows v : Int) (nC nB nT nS : Nat) (C B : List CellT) (T : List Bool) (SS : List Int) (h1 : S.g.r = rows) (h2 : S.g.w = v) (h3 : S.top = 0) (h4 : S.bot = rows - 1) (r1 : 1 ≤ rows) (r2 : rows ≤ 6) (r3 : 1 ≤ v) (r4 : v ≤ 12) (r5 : 0 ≤ row) (r6 : 0 ≤ col) : X_spec_l5Go [ptr 0, .int .i64 row, .int .i64 col] [blk (scrL S (slO 1 nC) (slO 2 nB) (slO 3 nT) (slO 4 nS)), ownB eC C, ownB eC B, ownB eB T, ownB eI6 SS] = some (.tuple #[], [blk (scrL { S with row := min row (rows - 1), col := min col (v - 1), late := false } (slO 1 nC) (slO 2 nB) (slO 3 nT) (slO 4 nS)), ownB eC C, ownB eC B, ownB eB T, ownB eI6 SS]) := by
  have w1 : IntKind.i64.wrap (rows - 1) = rows - 1 := wrap_i64 (by omega) (by omega)
  have w2 : IntKind.i64.wrap (v - 1) = v - 1 := wrap_i64 (by omega) (by omega)
  have m1 : max 0 (min (rows - 1) row) = min row (rows - 1) := by omega
  have m2 : max 0 (min (v - 1) col) = min col (v - 1) := by omega
  cases ho : S.org <;> simp (maxSteps := 800000) -implicitDefEqProofs [X_spec_l5Go, retK_eq, s_spec_l1Min, s_spec_l1Max, h1, h2, h3, h4, ho, w1, w2, m1, m2]
theorem s_spec_l5Go0 (S : ScrT) (row col rows v : Int) (nC nT nS : Nat) (C : List CellT) (T : List Bool) (SS : List Int) (h1 : S.g.r = rows) (h2 : S.g.w = v) (h3 : S.top = 0) (h4 : S.bot = rows - 1) (r1 : 1 ≤ rows) (r2 : rows ≤ 6) (r3 : 1 ≤ v) (r4 : v ≤ 12) (r5 : 0 ≤ row) (r6 : 0 ≤ col) : X_spec_l5Go [ptr 0, .int .i64 row, .int .i64 col] [blk (scrL S (slO 1 nC) (.slice none 0 0) (slO 2 nT) (slO 3 nS)), ownB eC C, ownB eB T, ownB eI6 SS] = some (.tuple #[], [blk (scrL { S with row := min row (rows - 1), col := min col (v - 1), late := false } (slO 1 nC) (.slice none 0 0) (slO 2 nT) (slO 3 nS)), ownB eC C, ownB eB T, ownB eI6 SS]) := by
  have w1 : IntKind.i64.wrap (rows - 1) = rows - 1 := wrap_i64 (by omega) (by omega)
  have w2 : IntKind.i64.wrap (v - 1) = v - 1 := wrap_i64 (by omega) (by omega)
  have m1 : max 0 (min (rows - 1) row) = min row (rows - 1) := by omega
  have m2 : max 0 (min (v - 1) col) = min col (v - 1) := by omega
  cases ho : S.org <;> simp (maxSteps := 800000) -implicitDefEqProofs [X_spec_l5Go, retK_eq, s_spec_l1Min, s_spec_l1Max, h1, h2, h3, h4, ho, w1, w2, m1, m2]
end Go.Ab
