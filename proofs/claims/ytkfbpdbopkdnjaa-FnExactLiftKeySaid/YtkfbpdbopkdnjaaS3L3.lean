/- What the functions of the program answer, for all arguments that the theorems name as conditions. -/
import Derived.Test.YtkfbpdbopkdnjaaS3L2
namespace Go.Ab
set_option linter.unusedSimpArgs false
set_option linter.unusedVariables false
set_option maxHeartbeats 8000000

theorem l_spec_l9Fault (v : KbT) (rest : List Value) (r : List HdT) : ∀ (p : List HdT) (pv : Option Int) (q : Nat), ((p = [] ∧ pv = none) ∨ ∃ p' y, p = p' ++ [y] ∧ pv = some y.k) → r.length < q → (p ++ r).length < 1000000000 → v.hs = p ++ r → L_spec_l9Fault 0 q 0 [roP (frS eHd (p ++ r) :: .bool v.cap :: .int .i64 v.acc :: rest), .int .i64 p.length] [] = some (.int .i64 (if okH pv r = true then (if inB v.acc 0 3 = true then 0 else 3) else 3), []) := by
  induction r with
  | nil =>
    intro p pv q hp hq hl hv
    obtain ⟨q, rfl⟩ : ∃ n, q = n + 1 := ⟨q - 1, by omega⟩
    cases h1 : inB v.acc 0 3 <;> simp -implicitDefEqProofs [L_spec_l9Fault, retK_eq, s_spec_l1In, okH, h1]
  | cons x r ih =>
    intro p pv q hp hq hl hv
    obtain ⟨q, rfl⟩ : ∃ n, q = n + 1 := ⟨q - 1, by omega⟩
    have h := ih (p ++ [x]) (some x.k) q (.inr ⟨p, x, rfl, rfl⟩) (by simp at hq; omega) (by simpa using hl) (by simpa using hv)
    simp at h
    have hx := ixa_mid eHd (sz := 2) rfl .i64 p x r
    have hw := wrap_next (n := p.length) (by simp at hl; omega)
    rcases hp with ⟨rfl, rfl⟩ | ⟨p', y, rfl, rfl⟩
    · simp at h hx hw
      cases h1 : inB x.k 1 40
      · simp (maxSteps := 400000) -implicitDefEqProofs [L_spec_l9Fault, retK_eq, cutK_eq, hx, hw, h, s_spec_l1In, okH, lowB, h1]
      by_cases b1 : x.b = 1
      · simp (maxSteps := 400000) -implicitDefEqProofs [L_spec_l9Fault, retK_eq, cutK_eq, hx, hw, h, s_spec_l1In, okH, lowB, bitB, h1, b1]
      by_cases b2 : x.b = 2
      · simp (maxSteps := 400000) -implicitDefEqProofs [L_spec_l9Fault, retK_eq, cutK_eq, hx, hw, h, s_spec_l1In, okH, lowB, bitB, h1, b2]
      by_cases b3 : x.b = 4
      · simp (maxSteps := 400000) -implicitDefEqProofs [L_spec_l9Fault, retK_eq, cutK_eq, hx, hw, h, s_spec_l1In, okH, lowB, bitB, h1, b3]
      · simp (maxSteps := 400000) -implicitDefEqProofs [L_spec_l9Fault, retK_eq, cutK_eq, hx, hw, h, s_spec_l1In, okH, lowB, bitB, h1, b1, b2, b3]
    · have hy := ixa_mid eHd (sz := 2) rfl .i64 p' y (x :: r)
      have hw2 : IntKind.i64.wrap (p'.length : Int) = p'.length := wrap_i64 (by omega) (by simp at hl; omega)
      simp at h hx hw
      have g3 : (1 : Int) < r.length + 1 + 1 := by omega
      have g : (0 : Int) < p'.length + 1 := by omega
      have g2 : ¬ ((r.length : Int) + 1 + 1 ≤ 1) := by omega
      cases h1 : inB x.k 1 40
      · simp (maxSteps := 400000) -implicitDefEqProofs [L_spec_l9Fault, retK_eq, cutK_eq, hx, hy, hw, hw2, h, s_spec_l1In, okH, lowB, h1, g, g2, g3]
      by_cases h3 : y.k < x.k
      · have h4 : ¬ x.k ≤ y.k := by omega
        by_cases b1 : x.b = 1
        · simp (maxSteps := 400000) -implicitDefEqProofs [L_spec_l9Fault, retK_eq, cutK_eq, hx, hy, hw, hw2, h, s_spec_l1In, okH, lowB, bitB, h1, b1, g, g2, g3, h3, h4]
        by_cases b2 : x.b = 2
        · simp (maxSteps := 400000) -implicitDefEqProofs [L_spec_l9Fault, retK_eq, cutK_eq, hx, hy, hw, hw2, h, s_spec_l1In, okH, lowB, bitB, h1, b2, g, g2, g3, h3, h4]
        by_cases b3 : x.b = 4
        · simp (maxSteps := 400000) -implicitDefEqProofs [L_spec_l9Fault, retK_eq, cutK_eq, hx, hy, hw, hw2, h, s_spec_l1In, okH, lowB, bitB, h1, b3, g, g2, g3, h3, h4]
        · simp (maxSteps := 400000) -implicitDefEqProofs [L_spec_l9Fault, retK_eq, cutK_eq, hx, hy, hw, hw2, h, s_spec_l1In, okH, lowB, bitB, h1, b1, b2, b3, g, g2, g3, h3, h4]
      · have h4 : x.k ≤ y.k := by omega
        by_cases b1 : x.b = 1
        · simp (maxSteps := 400000) -implicitDefEqProofs [L_spec_l9Fault, retK_eq, cutK_eq, hx, hy, hw, hw2, h, s_spec_l1In, okH, lowB, bitB, h1, b1, g, g2, g3, h3, h4]
        by_cases b2 : x.b = 2
        · simp (maxSteps := 400000) -implicitDefEqProofs [L_spec_l9Fault, retK_eq, cutK_eq, hx, hy, hw, hw2, h, s_spec_l1In, okH, lowB, bitB, h1, b2, g, g2, g3, h3, h4]
        by_cases b3 : x.b = 4
        · simp (maxSteps := 400000) -implicitDefEqProofs [L_spec_l9Fault, retK_eq, cutK_eq, hx, hy, hw, hw2, h, s_spec_l1In, okH, lowB, bitB, h1, b3, g, g2, g3, h3, h4]
        · simp (maxSteps := 400000) -implicitDefEqProofs [L_spec_l9Fault, retK_eq, cutK_eq, hx, hy, hw, hw2, h, s_spec_l1In, okH, lowB, bitB, h1, b1, b2, b3, g, g2, g3, h3, h4]
theorem s_spec_l9Fault (p : KbT) (hl : p.hs.length < 1000000000) (rest : List Value) : X_spec_l9Fault [roP (frS eHd p.hs :: .bool p.cap :: .int .i64 p.acc :: rest)] [] = some (.int .i64 (kbF p), []) := by
  have h := l_spec_l9Fault p rest p.hs [] none QQ (.inl ⟨rfl, rfl⟩) (by unfold QQ; omega) (by simpa using hl) rfl
  simp at h
  by_cases h1 : 4 < p.hs.length
  · have h2 : (4 : Int) < p.hs.length := by omega
    simp -implicitDefEqProofs [X_spec_l9Fault, retK_eq, cutK_eq, kbF, h1, h2]
  · have h2 : ¬ (4 : Int) < p.hs.length := by omega
    simp -implicitDefEqProofs [X_spec_l9Fault, retK_eq, cutK_eq, kbF, h1, h2, h]
end Go.Ab
