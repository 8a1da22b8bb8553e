/- What the functions of the program answer, for all arguments that the theorems name as conditions. -/
import Derived.Test.YtglkdfidjalkbaaS7G9b
import Derived.Test.YtglkdfidjalkbaaS7G17
import Derived.Test.YtglkdfidjalkbaaS7G19
namespace Go.Ab
set_option linter.unusedSimpArgs false
set_option linter.unusedVariables false
set_option maxHeartbeats 4000000

theorem elemC (l : List CellT) (j : Nat) (h : j < l.length) : ((cellsE eC l).drop (j * 2)).take 2 = [.int .i64 (gt l j).c, .int .i64 (gt l j).a] := elem_at eC h
theorem l_spec_l3Shift (g : GridT) (y n z : Int) (was : List CellT) (A W X : Nat) (hW : g.w = W) (hx : X < W) (hwl : was.length = W) (hn : -12 ≤ n ∧ n ≤ 12) (hw12 : W ≤ 12) (h1 : IntKind.i64.wrap (y * g.w) = (A : Nat)) (h2 : IntKind.i64.wrap (y + 1) = y + 1) (h3 : IntKind.i64.wrap ((y + 1) * g.w) = ((A + W : Nat) : Int)) (hl : A + W ≤ g.cs.length) :
    ∀ (d i q : Nat), d = W - i → X ≤ i → i ≤ W → d < q → L_spec_l3Shift 3 q 0 [ptr 0, .int .i64 y, .int .i64 X, .int .i64 n, .int .i64 z, slO 3 W, slO 4 W, .int .i64 i] [blk [.int .i64 g.r, .int .i64 g.w, slO 1 g.cs.length, slO 2 g.bk.length], ownB eC g.cs, ownB eC g.bk, ownB eC was, ownB eC ((shRow was X n ⟨32, z⟩).take i ++ was.drop i)] = some (.tuple #[], [blk [.int .i64 g.r, .int .i64 g.w, slO 1 g.cs.length, slO 2 g.bk.length], ownB eC (g.cs.take A ++ shRow was X n ⟨32, z⟩ ++ g.cs.drop (A + W)), ownB eC g.bk]) := by
  have hrl := shRow_len was X n ⟨32, z⟩ (by omega)
  intro d
  induction d with
  | zero =>
    intro i q hd hi ht hq
    obtain ⟨q, rfl⟩ : ∃ n, q = n + 1 := ⟨q - 1, by omega⟩
    obtain rfl : i = W := by omega
    have e : (shRow was X n ⟨32, z⟩).take i ++ was.drop i = shRow was X n ⟨32, z⟩ := by rw [List.take_of_length_le (by omega), List.drop_of_length_le (by omega), List.append_nil]
    rw [e]
    have hr := s_spec_l3Row g y (shRow was X n ⟨32, z⟩) A i h1 h2 h3 hl (by omega) (by omega)
    have hlt : ¬ (i : Int) < g.w := by omega
    generalize g.cs.take A ++ shRow was X n ⟨32, z⟩ ++ g.cs.drop (A + i) = cs' at *
    simp (maxSteps := 400000) -implicitDefEqProofs [L_spec_l3Shift, retK_eq, hlt, hr]
  | succ d ih =>
    intro i q hd hi ht hq
    obtain ⟨q, rfl⟩ : ∃ n, q = n + 1 := ⟨q - 1, by omega⟩
    have h := ih (i + 1) q (by omega) (by omega) (by omega) (by omega)
    generalize g.cs.take A ++ shRow was X n ⟨32, z⟩ ++ g.cs.drop (A + W) = cs' at *
    have hlt : (i : Int) < g.w := by omega
    have hw := wrap_next (n := i) (by omega)
    have w1 : IntKind.i64.wrap ((i : Int) - n) = (i : Int) - n := wrap_i64 (by omega) (by omega)
    have w2 : IntKind.i64.wrap (g.w - 1) = g.w - 1 := wrap_i64 (by omega) (by omega)
    have hx4 := fun o cc => ixa_sl (sz := 2) .i64 (n := 4) (o := o) (len := W) (c := cc) (j := (i : Int)) (by omega) (by omega)
    have hg : ∀ hh : i < (shRow was X n ⟨32, z⟩).length, (shRow was X n ⟨32, z⟩)[i]'hh = _ := fun hh => shRow_get was X n ⟨32, z⟩ i hi (by omega)
    have hll : ((shRow was X n ⟨32, z⟩).take i ++ was.drop i).length = W := by simp; omega
    generalize hS : shRow was X n ⟨32, z⟩ = S at *
    by_cases hb : (X : Int) ≤ (i : Int) - n ∧ (i : Int) - n < was.length
    · rw [if_pos hb] at hg
      have hin : inB ((i : Int) - n) X (g.w - 1) = true := by simp [inB]; omega
      obtain ⟨j, hj⟩ := Int.eq_ofNat_of_zero_le (show 0 ≤ (i : Int) - n by omega)
      have hx3 := fun o cc => ixa_sl (sz := 2) .i64 (n := 3) (o := o) (len := W) (c := cc) (j := (j : Int)) (by omega) (by omega)
      simp only [hj] at hg
      rw [hj] at hin w1
      have he := elemC was j (by omega)
      simp only [Int.toNat_natCast] at hg hx3 hx4
      have hy := lay_setC (S.take i ++ was.drop i) i (gt was j) (by omega)
      rw [mix_set S was i (gt was j) (by omega) (by omega) (hg _)] at hy
      have b1 : j * 2 + 1 < was.length * 2 := by omega
      have b1' : j * 2 + 2 ≤ was.length * 2 := by omega
      simp at h
      simp (maxSteps := 400000) -implicitDefEqProofs [L_spec_l3Shift, retK_eq, cutK_eq, hlt, hj, w1, w2, s_spec_l1In, hin, hx3, hx4, he, hy, hw, h, b1, b1']
      simp at hll
      omega
    · rw [if_neg hb] at hg
      have hin : inB ((i : Int) - n) X (g.w - 1) = false := by simp [inB]; omega
      have hy := lay_setC (S.take i ++ was.drop i) i ⟨32, z⟩ (by omega)
      rw [mix_set S was i ⟨32, z⟩ (by omega) (by omega) (hg _)] at hy
      simp only [Int.toNat_natCast] at hx4
      simp at h
      simp (maxSteps := 400000) -implicitDefEqProofs [L_spec_l3Shift, retK_eq, cutK_eq, hlt, w1, w2, s_spec_l1In, hin, hx4, hy, hw, h]
      simp at hll
      omega
theorem shL_row (l : List CellT) (A W X : Nat) (n : Int) (z : CellT) (h : A + W ≤ l.length) (hx : X < W) : l.take A ++ shRow ((l.drop A).take W) X n z ++ l.drop (A + W) = shL l (A + X) (W - X) n z := by
  have e1 : ((l.drop A).take W).take X = (l.drop A).take X := by rw [List.take_take, Nat.min_eq_left (by omega)]
  have e2 : ((l.drop A).take W).drop X = (l.drop (A + X)).take (W - X) := by rw [List.drop_take, List.drop_drop]
  unfold shRow shL
  rw [e1, e2, show A + X + (W - X) = A + W by omega, List.take_add]
  simp only [List.append_assoc]
theorem s_spec_l3Shift (g : GridT) (y x n z : Int) (hf : faultG g = 0) (ho : okSh g y x n z = true) : X_spec_l3Shift [ptr 0, .int .i64 y, .int .i64 x, .int .i64 n, .int .i64 z] [blk [.int .i64 g.r, .int .i64 g.w, slO 1 g.cs.length, slO 2 g.bk.length], ownB eC g.cs, ownB eC g.bk] = some (.tuple #[], [blk [.int .i64 g.r, .int .i64 g.w, slO 1 g.cs.length, slO 2 g.bk.length], ownB eC (shG g y x n z).cs, ownB eC g.bk]) := by
  obtain ⟨A, W, X, hW, rfl, x1, hA, l1, l2, W1, n0, n1, y0, y1, e1, e2, e3, e4, e5, e6⟩ := sh_facts hf ho
  have hro := s_spec_l3RowOf g y A W e1 e3 e4 l1 (by omega) []
  have hlen : ((g.cs.drop A).take W).length = W := by rw [List.length_take, List.length_drop]; omega
  have h := l_spec_l3Shift g y n z ((g.cs.drop A).take W) A W X hW x1 hlen ⟨n0, n1⟩ W1 e1 e3 e4 l1 (W - X) X QQ rfl (Nat.le_refl _) (by omega) (by unfold QQ; omega)
  rw [shL_row _ _ _ _ _ _ l1 x1] at h
  have ei : (shRow ((g.cs.drop A).take W) X n ⟨32, z⟩).take X ++ ((g.cs.drop A).take W).drop X = (g.cs.drop A).take W := by
    have : (shRow ((g.cs.drop A).take W) X n ⟨32, z⟩).take X = ((g.cs.drop A).take W).take X := by unfold shRow; rw [List.take_left' (by rw [List.length_take, hlen]; omega)]
    rw [this, List.take_append_drop]
  rw [ei] at h
  have ecs : (shG g y X n z).cs = shL g.cs (A + X) (W - X) n ⟨32, z⟩ := by simp only [shG, e5, e6]
  rw [← ecs] at h
  generalize (shG g y X n z).cs = cs' at *
  have p1 := fun m n c k => apL_sl (m := m) (sz := 2) (bytes := 16) (n := n) (o := 0) (len := 0) (c := c) (n2 := k) (o2 := 0) (len2 := W) (c2 := W) (by omega) (by omega)
  have hrd := rdM_own eC ((g.cs.drop A).take W) (W * 2) (by rw [hlen]; rfl)
  generalize (g.cs.drop A).take W = was at *
  simp (maxSteps := 400000) -implicitDefEqProofs [X_spec_l3Shift, retK_eq, cutK_eq, hro, p1, hrd, h]
theorem s_spec_l3Attr3 (n : Int) : X_spec_l3Attr [.int .i64 n] [] = some (.bool (atB n), []) := by
  simp +contextual -implicitDefEqProofs [X_spec_l3Attr, s_spec_l1In, retK_eq, atB]
theorem s_spec_ShiftCells_fault (g : GridT) (y x n z : Int) (hg : g.small) (hf : ¬ faultG g = 0) : X_spec_ShiftCells [gridV g, .int .i64 y, .int .i64 x, .int .i64 n, .int .i64 z] [] = some (resZ (faultG g), []) := by
  have c1 := fun rest => s_spec_l3Fault g hg rest
  have c4 := s_spec_l3Bad
  simp (maxSteps := 1000000) -implicitDefEqProofs [X_spec_ShiftCells, retK_eq, c1, c4, hf]
theorem s_spec_ShiftCells_bad (g : GridT) (y x n z : Int) (hg : g.small) (hf : faultG g = 0) (ho : okSh g y x n z = false) : X_spec_ShiftCells [gridV g, .int .i64 y, .int .i64 x, .int .i64 n, .int .i64 z] [] = some (resZ 3, []) := by
  have c1 := fun rest => s_spec_l3Fault g hg rest
  have c2 := fun rest => s_spec_l3Place g y x rest
  have c4 := s_spec_l3Bad
  cases h1 : plB g.r g.w y x <;> cases h2 : inB n (-12) 12 <;> simp [okSh, h1, h2] at ho <;> simp (maxSteps := 1000000) -implicitDefEqProofs [X_spec_ShiftCells, retK_eq, s_spec_l1In, s_spec_l3Attr3, c1, c2, c4, hf, h1, h2, *]
theorem s_spec_ShiftCells (g : GridT) (y x n z : Int) (hg : g.small) (hf : faultG g = 0) (ho : okSh g y x n z = true) (hlen : (shG g y x n z).cs.length = g.cs.length) : X_spec_ShiftCells [gridV g, .int .i64 y, .int .i64 x, .int .i64 n, .int .i64 z] [] = some (resO (shG g y x n z) 0 1, [ownB eC (shG g y x n z).cs, ownB eC g.bk]) := by
  have c1 := fun rest => s_spec_l3Fault g hg rest
  have c2 := fun rest => s_spec_l3Place g y x rest
  have c4 := s_spec_l3Copy g hg
  have c5 := s_spec_l3Shift g y x n z hf ho
  have ho' := ho
  simp [okSh] at ho'
  simp (maxSteps := 1000000) -implicitDefEqProofs [X_spec_ShiftCells, retK_eq, s_spec_l1In, s_spec_l3Attr3, c1, c2, c4, c5, hf, ho'.1, ho'.2.1, ho'.2.2, hlen]
  simp [shG]
end Go.Ab
