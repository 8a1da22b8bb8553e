/- What the functions of the program answer, for all arguments that the theorems name as conditions. -/
import Derived.Test.YtelkckbbelillaaS5U0
namespace Go.Ab
set_option linter.unusedSimpArgs false
set_option linter.unusedVariables false
set_option maxHeartbeats 4000000

/-! ## ResizeScreen of the program: the loop over the tab stops -/
def rsT (s : ScrT) (v : Nat) : List Bool := (s.tabs ++ tabL s.tabs.length (v - s.tabs.length)).take v
def rsS (s : ScrT) (rows v : Int) : ScrT := { s with g := reG s.g rows v, row := min s.row (rows - 1), col := min s.col (v - 1), late := false, top := 0, bot := rows - 1, tabs := rsT s v.toNat }
abbrev zS : List Value := [.int .i64 0, .int .i64 0, .slice none 0 0, .slice none 0 0, .int .i64 0, .int .i64 0, .bool false, .int .i64 0, .int .i64 0, .int .i64 0, .bool false, .bool false, .bool false, .slice none 0 0, .int .i64 0, .int .i64 0, .int .i64 0, .slice none 0 0, .int .i64 0, .int .i64 0]
theorem l_Screen_resized (s s' : ScrT) (x0 : Value) (b0 : Int) (hx1 : nmV 8 x0 = []) (hx2 : ∀ π, rnV 8 inert π x0 = some x0) (V : Nat) (hV : V ≤ 12) (hpos : V ≠ 0) (cC nC nB : Nat) (C B : List CellT) (ss : List Int) : ∀ (d : Nat) (T : List Bool) (q : Nat), T.length ≤ 12 → V - T.length = d → d < q →
    L_impl_Screen_resized 0 q 0 [x0, .int .i64 b0, .int .i64 V, ptr 0, ptr 1, .int .i64 T.length] [blk zS, blk (scrL s' (slQ 2 0 nC cC) (slO 3 nB) (slO 4 T.length) (slO 5 ss.length)), ownB eC C, ownB eC B, ownB eB T, ownB eI6 ss] = some (.agg (scrL s' (slQ 0 0 nC cC) (slO 1 nB) (slQ 2 0 V (T.length + d)) (slO 3 ss.length)).toArray, [ownB eC C, ownB eC B, ownB eB (T ++ tabL T.length d), ownB eI6 ss]) := by
  intro d
  induction d with
  | zero =>
    intro T q hT hd hq
    obtain ⟨q, rfl⟩ : ∃ n, q = n + 1 := ⟨q - 1, by omega⟩
    have hle : V ≤ T.length := by omega
    have hlt : ¬ (T.length : Int) < V := by omega
    have e0 : tabL T.length 0 = [] := rfl
    rw [e0, List.append_nil, Nat.add_zero]
    by_cases hz : T.length = 0
    · have hT0 : T = [] := List.eq_nil_of_length_eq_zero hz
      have hV0 : V = 0 := by omega
      subst hT0 hV0
      exact absurd rfl hpos
    · have s1 : slX [blk zS, blk (scrL s' (slQ 2 0 nC cC) (slO 3 nB) (slO 4 T.length) (slO 5 ss.length)), ownB eC C, ownB eC B, ownB eB T, ownB eI6 ss] 1 (slO 4 T.length) none (some (.int .i64 V)) = some (slQ 4 0 V T.length) := by
        have := sl_own (m := [blk zS, blk (scrL s' (slQ 2 0 nC cC) (slO 3 nB) (slO 4 T.length) (slO 5 ss.length)), ownB eC C, ownB eC B, ownB eB T, ownB eI6 ss]) (sz := 1) (n := 4) (o := 0) (len := T.length) (c := T.length) (a := 0) (b := V) (lo := none) (hi := some (.int .i64 V)) rfl rfl (bnd_nat .i64 V _) (by omega) hle (by omega)
        simpa using this
      simp (maxSteps := 400000) -implicitDefEqProofs [L_impl_Screen_resized, retK_eq, hlt, s1, hx1, hx2]
  | succ d ih =>
    intro T q hT hd hq
    obtain ⟨q, rfl⟩ : ∃ n, q = n + 1 := ⟨q - 1, by omega⟩
    have hlt : (T.length : Int) < V := by omega
    have h := ih (T ++ [tabB T.length]) q (by simp; omega) (by simp; omega) (by omega)
    have hw := wrap_next (n := T.length) (by omega)
    have ht := s_isTab T.length
    rw [tabL_succ]
    have e1 : T ++ tabB T.length :: tabL (T.length + 1) d = T ++ [tabB T.length] ++ tabL (T.length + 1) d := by simp
    have e2 : (T ++ [tabB T.length]).length = T.length + 1 := by simp
    rw [e1, show T.length + (d + 1) = T.length + 1 + d by omega]
    rw [e2] at h
    rw [← h]
    have p1 := fun m n o c n2 o2 c2 => apL_sl (m := m) (sz := 1) (bytes := 1) (n := n) (o := o) (len := T.length) (c := c) (n2 := n2) (o2 := o2) (len2 := 1) (c2 := c2)
    have p2 := fun m n cs k => apB_own (E := eB) (m := m) (l := T) (n := n) (sz := 1) (cs := cs) (k := k) rfl
    have hb : T.length + 1 < 1000000000 := by omega
    have hrm : ∀ b : Bool, rdM (some ⟨[.bool b], 1, true, true⟩) 0 1 = some [.bool b] := fun b => rfl
    have k2 : (⟨cellsE eB T ++ [.bool (tabB T.length)], 1, true, true⟩ : Blk) = ownB eB (T ++ [tabB T.length]) := mk_own2 eB T [tabB T.length] 1 rfl
    simp (maxSteps := 400000) -implicitDefEqProofs [L_impl_Screen_resized, cutK_eq, hlt, ht, hw, p1, p2, hb, hrm, k2, hx1, hx2]
end Go.Ab
