/- What the functions of the program answer, for all arguments that the theorems name as conditions. -/
import Derived.Test.YtglkdfidjalkbaaS7G9a
namespace Go.Ab
set_option linter.unusedSimpArgs false
set_option linter.unusedVariables false
set_option maxHeartbeats 4000000

theorem s_spec_l3Copy (g : GridT) (hg : g.small) : X_spec_l3Copy [gridV g] [] = some (gridO g 0 1, [ownB eC g.cs, ownB eC g.bk]) := by
  obtain ⟨g1, g2⟩ := hg
  have h1 := fun m n c => apL_frS (E := eC) (m := m) (sz := 2) (bytes := 16) (n := n) (o := 0) (len := 0) (c := c) (l := g.cs) rfl (by omega) (by omega)
  have h2 := fun m n c => apL_frS (E := eC) (m := m) (sz := 2) (bytes := 16) (n := n) (o := 0) (len := 0) (c := c) (l := g.bk) rfl (by omega) (by omega)
  simp +contextual -implicitDefEqProofs [X_spec_l3Copy, retK_eq, h1, h2]
end Go.Ab
