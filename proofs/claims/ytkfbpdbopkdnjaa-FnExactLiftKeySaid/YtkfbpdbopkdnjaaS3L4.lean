/- What the functions of the program answer, for all arguments that the theorems name as conditions. -/
import Derived.Test.YtkfbpdbopkdnjaaS3L0
import Derived.Test.YtkfbpdbopkdnjaaFC
namespace Go.Ab
set_option linter.unusedSimpArgs false
set_option linter.unusedVariables false
set_option maxHeartbeats 8000000

/-! ## Holds taken out of a slice -/
theorem cl_hold {m : Mem} {n a k c : Nat} {l : List HdT} (hm : m[n]? = some (ownB eHd l)) (h : a + k ≤ l.length) : clX m [.int .i64 0, .int .i64 0] (.slice (some ⟨n, a * 2, none⟩) k c) = some (.tuple #[], m.set n (ownB eHd (l.take a ++ List.replicate k ⟨0, 0⟩ ++ l.drop (a + k)))) := by
  show (if k = 0 then some (Value.tuple #[], m) else (wr m n (a * 2) (List.replicate k [Value.int .i64 0, .int .i64 0]).flatten).map fun m' => (Value.tuple #[], m')) = _
  by_cases h0 : k = 0
  · subst h0
    rw [if_pos rfl]
    simp
    obtain ⟨hn, e⟩ := List.getElem?_eq_some_iff.1 hm
    rw [← e, List.set_getElem_self]
  · rw [if_neg h0, flat_eHd]
    have := wr_own eHd (a := a) (xs := List.replicate k ⟨0, 0⟩) hm (by simpa using h)
    rw [eHd_sz] at this
    rw [this]
    simp
@[simp] theorem tk_eHd (p : List HdT) (x : HdT) (r : List HdT) : List.take 2 (List.drop (p.length * 2) (cellsE eHd (p ++ x :: r))) = [.int .i64 x.k, .int .i64 x.b] := by
  have e : p.length * 2 = (cellsE eHd p).length := by rw [cellsE_len, eHd_sz]
  rw [cellsE_append, e, List.drop_left]
  rfl
theorem s_impl_LiftKey_1 (x : HdT) (k : Int) : X_impl_LiftKey_1 [hdV x, roP [.int .i64 k]] [] = some (.bool (x.k == k), []) := by
  simp +contextual -implicitDefEqProofs [X_impl_LiftKey_1, retK_eq]
abbrev clo (n : Nat) : Value := .func (.func 127) #[] #[ptr n]
theorem l_IndexFuncN (k : Int) (r : List HdT) : ∀ (p : List HdT) (q : Nat), (∀ x ∈ r, x.k ≠ k) → r.length < q → (p ++ r).length < 1000000000 → L_slices_IndexFunc_impl_Hold_impl_Hold 2 q 0 [slO 0 (p ++ r).length, clo 1, .int .i64 (p ++ r).length, .int .i64 p.length] [ownB eHd (p ++ r), blk [.int .i64 k]] = some (.int .i64 (-1), [ownB eHd (p ++ r), blk [.int .i64 k]]) := by
  induction r with
  | nil =>
    intro p q hk hq hl
    obtain ⟨q, rfl⟩ : ∃ n, q = n + 1 := ⟨q - 1, by omega⟩
    simp -implicitDefEqProofs [L_slices_IndexFunc_impl_Hold_impl_Hold, retK_eq]
  | cons x r ih =>
    intro p q hk hq hl
    obtain ⟨q, rfl⟩ : ∃ n, q = n + 1 := ⟨q - 1, by omega⟩
    have h := ih (p ++ [x]) q (fun y hy => hk y (by simp [hy])) (by simp at hq; omega) (by simpa using hl)
    simp at h
    have hx := hk x (by simp)
    have hw := wrap_next (n := p.length) (by simp at hl; omega)
    have g : p.length * 2 + 2 ≤ (p.length + (r.length + 1)) * 2 := by omega
    simp +contextual -implicitDefEqProofs [L_slices_IndexFunc_impl_Hold_impl_Hold, cf_slices_IndexFunc_impl_Hold_impl_Hold, g, retK_eq, cutK_eq, hw, h, s_impl_LiftKey_1, hx]
theorem s_IndexFuncN (k : Int) (l : List HdT) (hk : ∀ x ∈ l, x.k ≠ k) (hl : l.length < 1000000000) : X_slices_IndexFunc_impl_Hold_impl_Hold [slO 0 l.length, clo 1] [ownB eHd l, blk [.int .i64 k]] = some (.int .i64 (-1), [ownB eHd l, blk [.int .i64 k]]) := by
  have h := l_IndexFuncN k l [] QQ hk (by unfold QQ; omega) (by simpa using hl)
  simp at h
  simp +contextual -implicitDefEqProofs [X_slices_IndexFunc_impl_Hold_impl_Hold, retK_eq, cutK_eq, h]
theorem l_IndexFuncY (k : Int) (y : HdT) (hy : y.k = k) (b : List HdT) (a : List HdT) : ∀ (p : List HdT) (q : Nat), (∀ x ∈ a, x.k ≠ k) → a.length < q → (p ++ (a ++ y :: b)).length < 1000000000 → L_slices_IndexFunc_impl_Hold_impl_Hold 2 q 0 [slO 0 (p ++ (a ++ y :: b)).length, clo 1, .int .i64 (p ++ (a ++ y :: b)).length, .int .i64 p.length] [ownB eHd (p ++ (a ++ y :: b)), blk [.int .i64 k]] = some (.int .i64 (p.length + a.length : Nat), [ownB eHd (p ++ (a ++ y :: b)), blk [.int .i64 k]]) := by
  induction a with
  | nil =>
    intro p q hk hq hl
    obtain ⟨q, rfl⟩ : ∃ n, q = n + 1 := ⟨q - 1, by omega⟩
    subst hy
    have g : p.length * 2 + 2 ≤ (p.length + (b.length + 1)) * 2 := by omega
    simp +contextual -implicitDefEqProofs [L_slices_IndexFunc_impl_Hold_impl_Hold, cf_slices_IndexFunc_impl_Hold_impl_Hold, g, retK_eq, cutK_eq, s_impl_LiftKey_1]
  | cons x r ih =>
    intro p q hk hq hl
    obtain ⟨q, rfl⟩ : ∃ n, q = n + 1 := ⟨q - 1, by omega⟩
    have h := ih (p ++ [x]) q (fun y hy => hk y (by simp [hy])) (by simp at hq; omega) (by simpa using hl)
    simp at h
    have hx := hk x (by simp)
    have hw := wrap_next (n := p.length) (by simp at hl; omega)
    have g : p.length * 2 + 2 ≤ (p.length + (r.length + (b.length + 1) + 1)) * 2 := by omega
    have g2 : (p.length : Int) < p.length + (r.length + (b.length + 1) + 1) := by omega
    have e : (p.length : Int) + 1 + r.length = p.length + (r.length + 1) := by omega
    rw [e] at h
    simp +contextual -implicitDefEqProofs [L_slices_IndexFunc_impl_Hold_impl_Hold, cf_slices_IndexFunc_impl_Hold_impl_Hold, g, retK_eq, cutK_eq, hw, h, s_impl_LiftKey_1, hx, g2]
theorem s_IndexFuncY (k : Int) (y : HdT) (hy : y.k = k) (a b : List HdT) (hk : ∀ x ∈ a, x.k ≠ k) (hl : (a ++ y :: b).length < 1000000000) : X_slices_IndexFunc_impl_Hold_impl_Hold [slO 0 (a ++ y :: b).length, clo 1] [ownB eHd (a ++ y :: b), blk [.int .i64 k]] = some (.int .i64 a.length, [ownB eHd (a ++ y :: b), blk [.int .i64 k]]) := by
  have h := l_IndexFuncY k y hy b a [] QQ hk (by simp at hl; unfold QQ; omega) (by simpa using hl)
  simp at h
  simp +contextual -implicitDefEqProofs [X_slices_IndexFunc_impl_Hold_impl_Hold, retK_eq, cutK_eq, h]
theorem s_IndexFuncE (k : Int) : X_slices_IndexFunc_impl_Hold_impl_Hold [roS 0 [], clo 0] [blk [.int .i64 k]] = some (.int .i64 (-1), [blk [.int .i64 k]]) := by
  have h : L_slices_IndexFunc_impl_Hold_impl_Hold 1 QQ 0 [roS 0 [], clo 0, .int .i64 0, .int .i64 0] [blk [.int .i64 k]] = some (.int .i64 (-1), [blk [.int .i64 k]]) := by
    obtain ⟨q, hq⟩ : ∃ n, QQ = n + 1 := ⟨QQ - 1, by unfold QQ; omega⟩
    rw [hq]
    simp +contextual -implicitDefEqProofs [L_slices_IndexFunc_impl_Hold_impl_Hold, retK_eq, cutK_eq]
  simp +contextual -implicitDefEqProofs [X_slices_IndexFunc_impl_Hold_impl_Hold, retK_eq, cutK_eq, h]
end Go.Ab
