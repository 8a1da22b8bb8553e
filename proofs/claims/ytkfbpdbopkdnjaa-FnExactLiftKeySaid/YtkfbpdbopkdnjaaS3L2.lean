/- What the functions of the program answer, for all arguments that the theorems name as conditions. -/
import Derived.Test.YtkfbpdbopkdnjaaS3L0
import Derived.Test.YtkfbpdbopkdnjaaS3B1i
import Derived.Test.YtkfbpdbopkdnjaaS3B1f
namespace Go.Ab
set_option linter.unusedSimpArgs false
set_option linter.unusedVariables false
set_option maxHeartbeats 8000000

/-! ## Faults of keyboards -/
def bitB (x : Int) : Bool := decide (x = 1) || decide (x = 2) || decide (x = 4)
def lowB (pv : Option Int) (k : Int) : Bool := match pv with
  | none => true
  | some y => decide (y < k)
def okH : Option Int → List HdT → Bool
  | _, [] => true
  | pv, x :: r => inB x.k 1 40 && bitB x.b && lowB pv x.k && okH (some x.k) r
def kbF (p : KbT) : Int := if 4 < p.hs.length then 2 else if okH none p.hs = true then (if inB p.acc 0 3 = true then 0 else 3) else 3
theorem s_impl_isKey (x : Int) : X_impl_isKey [.int .i64 x] [] = some (.bool (inB x 1 40), []) := by
  simp +contextual -implicitDefEqProofs [X_impl_isKey, retK_eq, s_impl_in]
theorem s_impl_isBit (x : Int) : X_impl_isBit [.int .i64 x] [] = some (.bool (bitB x), []) := by
  by_cases h1 : x = 1
  · simp +contextual -implicitDefEqProofs [X_impl_isBit, retK_eq, bitB, h1]
  · by_cases h2 : x = 2
    · simp +contextual -implicitDefEqProofs [X_impl_isBit, retK_eq, bitB, h2]
    · simp +contextual -implicitDefEqProofs [X_impl_isBit, retK_eq, bitB, h1, h2]
      rfl
theorem l_impl_KeyboardFault (v : KbT) (r : List HdT) : ∀ (p : List HdT) (pv : Option Int) (q : Nat), ((p = [] ∧ pv = none) ∨ ∃ p' y, p = p' ++ [y] ∧ pv = some y.k) → r.length < q → (p ++ r).length < 1000000000 → v.hs = p ++ r → L_impl_KeyboardFault 0 q 0 [ptr 0, frS eHd (p ++ r), .int .i64 (p ++ r).length, .int .i64 p.length] [blk [frS eHd (p ++ r), .bool v.cap, .int .i64 v.acc]] = some (.int .i64 (if okH pv r = true then (if inB v.acc 0 3 = true then 0 else 3) else 3), []) := by
  induction r with
  | nil =>
    intro p pv q hp hq hl hv
    obtain ⟨q, rfl⟩ : ∃ n, q = n + 1 := ⟨q - 1, by omega⟩
    simp -implicitDefEqProofs [L_impl_KeyboardFault, retK_eq, s_impl_in, s_impl_unless, okH, unl]
  | cons x r ih =>
    intro p pv q hp hq hl hv
    obtain ⟨q, rfl⟩ : ∃ n, q = n + 1 := ⟨q - 1, by omega⟩
    have h := ih (p ++ [x]) (some x.k) q (.inr ⟨p, x, rfl, rfl⟩) (by simp at hq; omega) (by simpa using hl) (by simpa using hv)
    simp at h
    have hx := ixa_mid eHd (sz := 2) rfl .i64 p x r
    have hw := wrap_next (n := p.length) (by simp at hl; omega)
    rcases hp with ⟨rfl, rfl⟩ | ⟨p', y, rfl, rfl⟩
    · simp at h hx hw
      cases h1 : inB x.k 1 40 <;> cases h2 : bitB x.b <;> simp (maxSteps := 400000) -implicitDefEqProofs [L_impl_KeyboardFault, retK_eq, cutK_eq, hx, hw, h, s_impl_isKey, s_impl_isBit, okH, lowB, h1, h2]
    · have hy := ixa_mid eHd (sz := 2) rfl .i64 p' y (x :: r)
      have hw2 : IntKind.i64.wrap (p'.length : Int) = p'.length := wrap_i64 (by omega) (by simp at hl; omega)
      simp at h hx hw
      have e : (p'.length : Int) + 1 + (r.length + 1) = p'.length + (r.length + 1 + 1) := by omega
      rw [e] at h
      have g3 : (1 : Int) < r.length + 1 + 1 := by omega
      have g : (0 : Int) < p'.length + 1 := by omega
      have g2 : ¬ ((r.length : Int) + 1 + 1 ≤ 1) := by omega
      cases h1 : inB x.k 1 40 <;> cases h2 : bitB x.b <;> by_cases h3 : y.k < x.k <;> simp (maxSteps := 400000) -implicitDefEqProofs [L_impl_KeyboardFault, retK_eq, cutK_eq, hx, hy, hw, hw2, h, s_impl_isKey, s_impl_isBit, okH, lowB, h1, h2, h3, g, g2, g3] <;> (intro h5; omega)
theorem s_impl_KeyboardFault (p : KbT) (hl : p.hs.length < 1000000000) : X_impl_KeyboardFault [kbV p] [] = some (.int .i64 (kbF p), []) := by
  have h := l_impl_KeyboardFault p p.hs [] none QQ (.inl ⟨rfl, rfl⟩) (by unfold QQ; omega) (by simpa using hl) rfl
  simp at h
  by_cases h1 : 4 < p.hs.length
  · have h2 : (4 : Int) < p.hs.length := by omega
    simp -implicitDefEqProofs [X_impl_KeyboardFault, retK_eq, cutK_eq, kbF, h1, h2]
  · have h2 : ¬ (4 : Int) < p.hs.length := by omega
    simp -implicitDefEqProofs [X_impl_KeyboardFault, retK_eq, cutK_eq, kbF, h1, h2, h]
end Go.Ab
