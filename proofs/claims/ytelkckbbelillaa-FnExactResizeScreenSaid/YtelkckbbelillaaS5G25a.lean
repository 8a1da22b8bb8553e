/- What the functions of the program answer, for all arguments that the theorems name as conditions. -/
import Derived.Test.YtelkckbbelillaaS5G17a
namespace Go.Ab
set_option linter.unusedSimpArgs false
set_option linter.unusedVariables false
set_option maxHeartbeats 8000000

/-! ## Blanks of the specification -/
theorem rdM_one (a b : Value) : rdM (some ⟨[a, b], 2, true, true⟩) 0 2 = some [a, b] := rfl
theorem l_l3Blanks (z : Int) : ∀ (d j q : Nat), d < q → d + j < 1000000 → L_spec_l3Blanks 0 q 0 [.int .i64 d, .int .i64 z, slO 0 j] [ownB eC (List.replicate j ⟨32, z⟩)] = some (slO 0 (d + j), [ownB eC (List.replicate (d + j) ⟨32, z⟩)]) := by
  intro d
  induction d with
  | zero =>
    intro j q hq hl
    obtain ⟨q, rfl⟩ : ∃ n, q = n + 1 := ⟨q - 1, by omega⟩
    simp -implicitDefEqProofs [L_spec_l3Blanks, retK_eq]
  | succ d ih =>
    intro j q hq hl
    obtain ⟨q, rfl⟩ : ∃ n, q = n + 1 := ⟨q - 1, by omega⟩
    have h := ih (j + 1) q (by omega) (by omega)
    have p1 := fun m n k c => apL_sl (m := m) (sz := 2) (bytes := 16) (n := n) (o := 0) (len := j) (c := c) (n2 := k) (o2 := 0) (len2 := 1) (c2 := 1) (by omega) (by omega)
    have p3 := fun m n cs k => apB_own (E := eC) (m := m) (l := List.replicate j (⟨32, z⟩ : CellT)) (n := n) (sz := 2) (cs := cs) (k := k) rfl
    simp only [List.length_replicate] at p3
    have hk : (⟨cellsE eC (List.replicate j ⟨32, z⟩) ++ [.int .i64 32, .int .i64 z], 2, true, true⟩ : Blk) = ownB eC (List.replicate (j + 1) ⟨32, z⟩) := by
      rw [List.replicate_succ', ← mk_own2 eC _ _ 2 rfl]
      rfl
    have hw : IntKind.i64.wrap (d : Int) = d := wrap_i64 (by omega) (by omega)
    have hd : (0 : Int) < (d : Int) + 1 := by omega
    have e1 : d + (j + 1) = d + 1 + j := by omega
    rw [e1] at h
    generalize d + 1 + j = N at *
    simp -implicitDefEqProofs [L_spec_l3Blanks, retK_eq, cutK_eq, p1, p3, rdM_one, hk, hd, hw, h]
theorem s_spec_l3Blanks (N : Nat) (z : Int) (h : N < 1000000) : X_spec_l3Blanks [.int .i64 N, .int .i64 z] [] = some (slO 0 N, [ownB eC (List.replicate N ⟨32, z⟩)]) := by
  have hl := l_l3Blanks z N 0 QQ (by unfold QQ; omega) (by omega)
  have e0 : (⟨[], 2, true, true⟩ : Blk) = ownB eC [] := rfl
  simp at hl
  simp -implicitDefEqProofs [X_spec_l3Blanks, retK_eq, cutK_eq, e0, hl]
end Go.Ab
