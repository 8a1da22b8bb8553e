/- What the functions of the program answer, for all arguments that the theorems name as conditions. -/
import Derived.Test.YtglkdfidjalkbaaS7G25
namespace Go.Ab
set_option linter.unusedSimpArgs false
set_option linter.unusedVariables false
set_option maxHeartbeats 8000000

/-! ## One row up or down, by the specification -/
theorem row_n (W y : Nat) (hw : W ≤ 12) (hy : y ≤ 7) : IntKind.i64.wrap ((y : Int) * W) = ((y * W : Nat) : Int) ∧ IntKind.i64.wrap ((y : Int) + 1) = (y : Int) + 1 ∧ IntKind.i64.wrap (((y : Int) + 1) * W) = ((y * W + W : Nat) : Int) := by
  have m1 : y * W ≤ 7 * 12 := Nat.mul_le_mul hy hw
  have e1 : ((y : Int) * W) = ((y * W : Nat) : Int) := by simp
  have e2 : (((y : Int) + 1) * W) = ((y * W + W : Nat) : Int) := by rw [Int.add_mul, Int.one_mul, e1]; simp
  rw [e1, e2]
  exact ⟨wrap_i64 (by omega) (by omega), wrap_i64 (by omega) (by omega), wrap_i64 (by omega) (by omega)⟩
def BK2 (l : List CellT) (v : Value) (m : Mem) : Prop := (v = slO 2 l.length ∧ m = [ownB eC l]) ∨ ∃ c : List CellT, v = slO 3 l.length ∧ m = [deadC c, ownB eC l]
theorem up_step (l : List CellT) (a K W p : Nat) (z : CellT) (h : a + K ≤ l.length) (h0 : a ≤ p) (h1 : p + W + W ≤ a + K) : ((shL l a K (-(W : Int)) z).take p ++ l.drop p).take p ++ (((shL l a K (-(W : Int)) z).take p ++ l.drop p).drop (p + W)).take W ++ ((shL l a K (-(W : Int)) z).take p ++ l.drop p).drop (p + W) = (shL l a K (-(W : Int)) z).take (p + W) ++ l.drop (p + W) := by
  have hl := shL_len l a K (-(W : Int)) z h
  have hp : ((shL l a K (-(W : Int)) z).take p).length = p := by simp [hl]; omega
  have e : ((shL l a K (-(W : Int)) z).take p ++ l.drop p).drop (p + W) = l.drop (p + W) := by
    rw [List.drop_append, hp, List.drop_of_length_le (by omega), List.nil_append, show p + W - p = W by omega, List.drop_drop]
  have := put_row (shL l a K (-(W : Int)) z) l p W hl (by omega)
  rw [up_row l a K W p z h h0 h1] at this
  rw [← this, e]
theorem up_end (l : List CellT) (a K W p : Nat) (z : CellT) (h : a + K ≤ l.length) (h0 : a ≤ p) (h1 : p + W = a + K) (hW : W ≤ K) : ((shL l a K (-(W : Int)) z).take p ++ l.drop p).take p ++ List.replicate W z ++ ((shL l a K (-(W : Int)) z).take p ++ l.drop p).drop (p + W) = shL l a K (-(W : Int)) z := by
  have hl := shL_len l a K (-(W : Int)) z h
  have := put_row (shL l a K (-(W : Int)) z) l p W hl (by omega)
  have e := up_last l a K W z h hW
  rw [show a + K - W = p by omega] at e
  rw [e, h1, ← shL_drop l a K (-(W : Int)) z h, List.take_append_drop, ← h1] at this
  rw [h1] at this ⊢
  exact this
theorem l_scroll_up (g : GridT) (z : Int) (W T B : Nat) (hW : g.w = W) (hw : W ≤ 12) (h2 : 2 ≤ W) (hT : T ≤ B) (hB : B ≤ 5) (hl : (B + 1) * W ≤ g.cs.length) (hs : g.cs.length ≤ 72) (hbk : g.bk.length ≤ 60) (bv : Value) (bm : Mem) (hb : BK2 g.bk bv bm) :
    ∀ (d y q : Nat), d = B - y → T ≤ y → y ≤ B → d < q → L_spec_l3Scroll 3 q 0 [ptr 0, .int .i64 T, .int .i64 B, .bool true, .int .i64 z, .int .i64 y] (blk [.int .i64 g.r, .int .i64 g.w, slO 1 g.cs.length, bv] :: ownB eC ((shL g.cs (T * W) ((B + 1) * W - T * W) (-(W : Int)) ⟨32, z⟩).take (y * W) ++ g.cs.drop (y * W)) :: bm) = some (.tuple #[], blk [.int .i64 g.r, .int .i64 g.w, slO 1 g.cs.length, bv] :: ownB eC (shL g.cs (T * W) ((B + 1) * W - T * W) (-(W : Int)) ⟨32, z⟩) :: bm) := by
  have hTB : (T + 1) * W ≤ (B + 1) * W := Nat.mul_le_mul_right _ (by omega)
  have e1 : (T + 1) * W = T * W + W := Nat.succ_mul _ _
  have e2 : (B + 1) * W = B * W + W := Nat.succ_mul _ _
  have hak : T * W + ((B + 1) * W - T * W) ≤ g.cs.length := by omega
  have hSl := shL_len g.cs (T * W) ((B + 1) * W - T * W) (-(W : Int)) ⟨32, z⟩ hak
  intro d
  induction d with
  | zero =>
    intro y q hd hy hyb hq
    obtain ⟨q, rfl⟩ : ∃ n, q = n + 1 := ⟨q - 1, by omega⟩
    obtain rfl : y = B := by omega
    obtain ⟨r1, r2, r3⟩ := row_n W y hw (by omega)
    have hlt : ¬ (y : Int) < (y : Int) := by omega
    have hend := up_end g.cs (T * W) ((y + 1) * W - T * W) W (y * W) ⟨32, z⟩ hak (Nat.mul_le_mul_right _ hy) (by omega) (by omega)
    have hcl : ((shL g.cs (T * W) ((y + 1) * W - T * W) (-(W : Int)) ⟨32, z⟩).take (y * W) ++ g.cs.drop (y * W)).length = g.cs.length := by simp [hSl]; omega
    have hbl := s_spec_l3Blanks W z (by omega)
    have hro := s_spec_l3Row ⟨g.r, W, (shL g.cs (T * W) ((y + 1) * W - T * W) (-(W : Int)) ⟨32, z⟩).take (y * W) ++ g.cs.drop (y * W), g.bk⟩ y (List.replicate W ⟨32, z⟩) (y * W) W r1 r2 r3 (by simp only [hcl]; omega) (by omega) (by simp)
    simp only [hend, hcl] at hro
    generalize (shL g.cs (T * W) ((y + 1) * W - T * W) (-(W : Int)) ⟨32, z⟩).take (y * W) ++ g.cs.drop (y * W) = cy at *
    generalize shL g.cs (T * W) ((y + 1) * W - T * W) (-(W : Int)) ⟨32, z⟩ = S at *
    rcases hb with ⟨rfl, rfl⟩ | ⟨c, rfl, rfl⟩ <;> simp (maxSteps := 400000) -implicitDefEqProofs [L_spec_l3Scroll, retK_eq, hW, hbl, hro]
  | succ d ih =>
    intro y q hd hy hyb hq
    obtain ⟨q, rfl⟩ : ∃ n, q = n + 1 := ⟨q - 1, by omega⟩
    have h := ih (y + 1) q (by omega) (by omega) (by omega) (by omega)
    obtain ⟨r1, r2, r3⟩ := row_n W y hw (by omega)
    obtain ⟨u1, u2, u3⟩ := row_n W (y + 1) hw (by omega)
    have e3 : (y + 1) * W = y * W + W := Nat.succ_mul _ _
    have e4 : (y + 1 + 1) * W = (y + 1) * W + W := Nat.succ_mul _ _
    have e5 : (y + 1 + 1) * W ≤ (B + 1) * W := Nat.mul_le_mul_right _ (by omega)
    have hlt : (y : Int) < (B : Int) := by omega
    have hlt' : y < B := by omega
    have hst := up_step g.cs (T * W) ((B + 1) * W - T * W) W (y * W) ⟨32, z⟩ hak (Nat.mul_le_mul_right _ hy) (by omega)
    have hcl : ((shL g.cs (T * W) ((B + 1) * W - T * W) (-(W : Int)) ⟨32, z⟩).take (y * W) ++ g.cs.drop (y * W)).length = g.cs.length := by simp [hSl]; omega
    rw [e3] at h u1 u3
    rw [Int.natCast_add, Int.natCast_one] at u1 u2 u3
    generalize (shL g.cs (T * W) ((B + 1) * W - T * W) (-(W : Int)) ⟨32, z⟩).take (y * W) ++ g.cs.drop (y * W) = cy at *
    have hof := fun rest => s_spec_l3RowOf ⟨g.r, W, cy, g.bk⟩ ((y : Int) + 1) (y * W + W) W u1 u2 u3 (by simp only [hcl]; omega) (by simp only [hcl]; omega) rest
    have hro := s_spec_l3Row ⟨g.r, W, cy, g.bk⟩ y ((cy.drop (y * W + W)).take W) (y * W) W r1 r2 r3 (by simp only [hcl]; omega) (by omega) (by simp [hcl]; omega)
    have hlen : ((cy.drop (y * W + W)).take W).length = W := by simp [hcl]; omega
    simp only [hst, hcl] at hro
    simp only at hof
    have hfz := fun j m => fzO_own eC j m cy
    rw [hcl] at hfz
    generalize (cy.drop (y * W + W)).take W = row at *
    generalize (shL g.cs (T * W) ((B + 1) * W - T * W) (-(W : Int)) ⟨32, z⟩).take (y * W + W) ++ g.cs.drop (y * W + W) = cy2 at *
    generalize shL g.cs (T * W) ((B + 1) * W - T * W) (-(W : Int)) ⟨32, z⟩ = S at *
    rw [hW] at h
    simp at h
    rcases hb with ⟨rfl, rfl⟩ | ⟨c, rfl, rfl⟩ <;> simp (maxSteps := 400000) -implicitDefEqProofs [L_spec_l3Scroll, retK_eq, cutK_eq, hlt, hlt', hW, r2, hof, hro, hfz, h]
theorem down_step (l : List CellT) (a K W p : Nat) (z : CellT) (h : a + K ≤ l.length) (h0 : a ≤ p) (h1 : p + W + W ≤ a + K) : (l.take (p + W + W) ++ (shL l a K (W : Int) z).drop (p + W + W)).take (p + W) ++ ((l.take (p + W + W) ++ (shL l a K (W : Int) z).drop (p + W + W)).drop p).take W ++ (l.take (p + W + W) ++ (shL l a K (W : Int) z).drop (p + W + W)).drop (p + W + W) = l.take (p + W) ++ (shL l a K (W : Int) z).drop (p + W) := by
  have hl := shL_len l a K (W : Int) z h
  have e : ((l.take (p + W + W) ++ (shL l a K (W : Int) z).drop (p + W + W)).drop p).take W = ((shL l a K (W : Int) z).drop (p + W)).take W := by
    rw [down_row l a K W p z h h0 h1, List.drop_append_of_le_length (by simp; omega), List.take_append_of_le_length (by simp; omega), List.drop_take, List.take_take, Nat.min_eq_left (by omega)]
  rw [e]
  exact put_row2 (shL l a K (W : Int) z) l (p + W) W hl (by omega)
theorem down_end (l : List CellT) (a K W : Nat) (z : CellT) (h : a + K ≤ l.length) (hW : W ≤ K) : (l.take (a + W) ++ (shL l a K (W : Int) z).drop (a + W)).take a ++ List.replicate W z ++ (l.take (a + W) ++ (shL l a K (W : Int) z).drop (a + W)).drop (a + W) = shL l a K (W : Int) z := by
  have hl := shL_len l a K (W : Int) z h
  have := put_row2 (shL l a K (W : Int) z) l a W hl (by omega)
  rw [down_first l a K W z h hW] at this
  rw [this, ← shL_take l a K (W : Int) z h, List.take_append_drop]
theorem l_scroll_down (g : GridT) (z : Int) (W T B : Nat) (hW : g.w = W) (hw : W ≤ 12) (h2 : 2 ≤ W) (hT : T ≤ B) (hB : B ≤ 5) (hl : (B + 1) * W ≤ g.cs.length) (hs : g.cs.length ≤ 72) (hbk : g.bk.length ≤ 60) (bv : Value) (bm : Mem) (hb : BK2 g.bk bv bm) :
    ∀ (d q : Nat), T + d ≤ B → d < q → L_spec_l3Scroll 3 q 1 [ptr 0, .int .i64 T, .int .i64 B, .bool false, .int .i64 z, .int .i64 (T + d : Nat)] (blk [.int .i64 g.r, .int .i64 g.w, slO 1 g.cs.length, bv] :: ownB eC (g.cs.take ((T + d) * W + W) ++ (shL g.cs (T * W) ((B + 1) * W - T * W) (W : Int) ⟨32, z⟩).drop ((T + d) * W + W)) :: bm) = some (.tuple #[], blk [.int .i64 g.r, .int .i64 g.w, slO 1 g.cs.length, bv] :: ownB eC (shL g.cs (T * W) ((B + 1) * W - T * W) (W : Int) ⟨32, z⟩) :: bm) := by
  have hTB : (T + 1) * W ≤ (B + 1) * W := Nat.mul_le_mul_right _ (by omega)
  have e1 : (T + 1) * W = T * W + W := Nat.succ_mul _ _
  have e2 : (B + 1) * W = B * W + W := Nat.succ_mul _ _
  have hak : T * W + ((B + 1) * W - T * W) ≤ g.cs.length := by omega
  have hSl := shL_len g.cs (T * W) ((B + 1) * W - T * W) (W : Int) ⟨32, z⟩ hak
  intro d
  induction d with
  | zero =>
    intro q hd hq
    obtain ⟨q, rfl⟩ : ∃ n, q = n + 1 := ⟨q - 1, by omega⟩
    rw [Nat.add_zero]
    obtain ⟨r1, r2, r3⟩ := row_n W T hw (by omega)
    have hend := down_end g.cs (T * W) ((B + 1) * W - T * W) W ⟨32, z⟩ hak (by omega)
    have hcl : (g.cs.take (T * W + W) ++ (shL g.cs (T * W) ((B + 1) * W - T * W) (W : Int) ⟨32, z⟩).drop (T * W + W)).length = g.cs.length := by simp [hSl]; omega
    have hbl := s_spec_l3Blanks W z (by omega)
    have hro := s_spec_l3Row ⟨g.r, W, g.cs.take (T * W + W) ++ (shL g.cs (T * W) ((B + 1) * W - T * W) (W : Int) ⟨32, z⟩).drop (T * W + W), g.bk⟩ T (List.replicate W ⟨32, z⟩) (T * W) W r1 r2 r3 (by simp only [hcl]; omega) (by omega) (by simp)
    simp only [hend, hcl] at hro
    generalize g.cs.take (T * W + W) ++ (shL g.cs (T * W) ((B + 1) * W - T * W) (W : Int) ⟨32, z⟩).drop (T * W + W) = cy at *
    generalize (shL g.cs (T * W) ((B + 1) * W - T * W) (W : Int) ⟨32, z⟩) = S at *
    rcases hb with ⟨rfl, rfl⟩ | ⟨c, rfl, rfl⟩ <;> simp (maxSteps := 400000) -implicitDefEqProofs [L_spec_l3Scroll, retK_eq, hW, hbl, hro]
  | succ d ih =>
    intro q hd hq
    obtain ⟨q, rfl⟩ : ∃ n, q = n + 1 := ⟨q - 1, by omega⟩
    have h := ih q (by omega) (by omega)
    obtain ⟨y, hy⟩ : ∃ y, y = T + d := ⟨_, rfl⟩
    rw [show T + (d + 1) = y + 1 by omega]
    rw [← hy] at h
    obtain ⟨r1, r2, r3⟩ := row_n W y hw (by omega)
    obtain ⟨u1, u2, u3⟩ := row_n W (y + 1) hw (by omega)
    have e3 : (y + 1) * W = y * W + W := Nat.succ_mul _ _
    have e5 : (y + 1 + 1) * W ≤ (B + 1) * W := Nat.mul_le_mul_right _ (by omega)
    have e6 : (y + 1 + 1) * W = y * W + W + W := by rw [Nat.succ_mul, e3]
    have e7 : T * W ≤ y * W := Nat.mul_le_mul_right _ (by omega)
    have hlt : (T : Int) < (y : Int) + 1 := by omega
    have hlt' : T < y + 1 := by omega
    have hst := down_step g.cs (T * W) ((B + 1) * W - T * W) W (y * W) ⟨32, z⟩ hak e7 (by omega)
    have hcl : (g.cs.take (y * W + W + W) ++ (shL g.cs (T * W) ((B + 1) * W - T * W) (W : Int) ⟨32, z⟩).drop (y * W + W + W)).length = g.cs.length := by simp [hSl]; omega
    rw [e3] at u1 u3
    rw [Int.natCast_add, Int.natCast_one] at u1 u2 u3
    rw [e3]
    generalize g.cs.take (y * W + W + W) ++ (shL g.cs (T * W) ((B + 1) * W - T * W) (W : Int) ⟨32, z⟩).drop (y * W + W + W) = cy at *
    have wy : IntKind.i64.wrap (y : Int) = y := wrap_i64 (by omega) (by omega)
    have hof := fun rest => s_spec_l3RowOf ⟨g.r, W, cy, g.bk⟩ (y : Int) (y * W) W r1 r2 r3 (by simp only [hcl]; omega) (by simp only [hcl]; omega) rest
    have hro := s_spec_l3Row ⟨g.r, W, cy, g.bk⟩ ((y : Int) + 1) ((cy.drop (y * W)).take W) (y * W + W) W u1 u2 u3 (by simp only [hcl]; omega) (by omega) (by simp [hcl]; omega)
    have hlen : ((cy.drop (y * W)).take W).length = W := by simp [hcl]; omega
    simp only [hst, hcl] at hro
    simp only at hof
    have hfz := fun j m => fzO_own eC j m cy
    rw [hcl] at hfz
    generalize (cy.drop (y * W)).take W = row at *
    generalize g.cs.take (y * W + W) ++ (shL g.cs (T * W) ((B + 1) * W - T * W) (W : Int) ⟨32, z⟩).drop (y * W + W) = cy2 at *
    generalize (shL g.cs (T * W) ((B + 1) * W - T * W) (W : Int) ⟨32, z⟩) = S at *
    rw [hW] at h
    try simp at h
    rcases hb with ⟨rfl, rfl⟩ | ⟨c, rfl, rfl⟩ <;> simp (maxSteps := 400000) -implicitDefEqProofs [L_spec_l3Scroll, retK_eq, cutK_eq, hlt, hlt', hW, wy, hof, hro, hfz, h]
end Go.Ab
