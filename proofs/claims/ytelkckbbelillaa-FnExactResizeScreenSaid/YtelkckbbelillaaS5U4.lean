/- What the functions of the program answer, for all arguments that the theorems name as conditions. -/
import Derived.Test.YtelkckbbelillaaS5U3
import Derived.Test.YtelkckbbelillaaS5G31
import Derived.Test.YtelkckbbelillaaS5G32
namespace Go.Ab
set_option linter.unusedSimpArgs false
set_option linter.unusedVariables false
set_option maxHeartbeats 4000000

theorem s_spec_l5Bad (c : Int) : X_spec_l5Bad [.int .i64 c] [] = some (srB c, []) := by
  simp (maxSteps := 1000000) -implicitDefEqProofs [X_spec_l5Bad, retK_eq]
theorem s_spec_l1Max (a b : Int) : X_spec_l1Max [.int .i64 a, .int .i64 b] [] = some (.int .i64 (max a b), []) := by
  by_cases h : a > b
  · simp -implicitDefEqProofs [X_spec_l1Max, retK_eq, h]
    omega
  · simp -implicitDefEqProofs [X_spec_l1Max, retK_eq, h]
    omega
theorem s_spec_l3Copy (g : GridT) (hs : g.small) : X_spec_l3Copy [gridV g] [] = some (gridO g 0 1, [ownB eC g.cs, ownB eC g.bk]) := by
  have p1 := fun m n c => apL_frS (E := eC) (m := m) (sz := 2) (bytes := 16) (n := n) (o := 0) (len := 0) (c := c) (l := g.cs) rfl (by have := hs.1; omega) (by omega)
  have p2 := fun m n c => apL_frS (E := eC) (m := m) (sz := 2) (bytes := 16) (n := n) (o := 0) (len := 0) (c := c) (l := g.bk) rfl (by have := hs.2; omega) (by omega)
  have k1 : ∀ l, (⟨cellsE eC l, 2, true, true⟩ : Blk) = ownB eC l := fun l => rfl
  simp (maxSteps := 1000000) -implicitDefEqProofs [X_spec_l3Copy, retK_eq, p1, p2, k1]
theorem s_spec_l5Copy (s : ScrT) (hs : s.small) : X_spec_l5Copy [scrV s] [] = some (scrO s 0 1 2 3, [ownB eC s.g.cs, ownB eC s.g.bk, ownB eB s.tabs, ownB eI6 s.sets]) := by
  have c1 := s_spec_l3Copy s.g hs.1
  have p1 := fun m n c => apL_frS (E := eB) (m := m) (sz := 1) (bytes := 1) (n := n) (o := 0) (len := 0) (c := c) (l := s.tabs) rfl (by have := hs.2.1; omega) (by omega)
  have p2 := fun m n c => apL_frS (E := eI6) (m := m) (sz := 1) (bytes := 8) (n := n) (o := 0) (len := 0) (c := c) (l := s.sets) rfl (by have := hs.2.2; omega) (by omega)
  have k1 : ∀ l, (⟨cellsE eB l, 1, true, true⟩ : Blk) = ownB eB l := fun l => rfl
  have k2 : ∀ l, (⟨cellsE eI6 l, 1, true, true⟩ : Blk) = ownB eI6 l := fun l => rfl
  simp (maxSteps := 1000000) -implicitDefEqProofs [X_spec_l5Copy, retK_eq, c1, p1, p2, k1, k2]
end Go.Ab
