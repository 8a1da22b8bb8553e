/- What the functions of the program answer, for all arguments that the theorems name as conditions. -/
import Derived.Test.YtelkckbbelillaaS5G2
import Derived.Test.YtelkckbbelillaaS5G3a
namespace Go.Ab
set_option linter.unusedSimpArgs false
set_option linter.unusedVariables false
set_option maxHeartbeats 4000000

theorem l_toCellS (r : List CellT) : ∀ (p : List CellT) (q n : Nat), r.length < q → n = (p ++ r).length → n < 1000000000 → L_laws_toCellS 0 q 0 [frS eC (p ++ r), .slice (some ⟨0, 0, none⟩) n n, .int .i64 p.length] [ownB eC (p ++ List.replicate r.length ⟨0, 0⟩)] = some (.slice (some ⟨0, 0, none⟩) n n, [ownB eC (p ++ r)]) := by
  induction r with
  | nil =>
    intro p q n hq hn hl
    obtain ⟨q, rfl⟩ : ∃ n, q = n + 1 := ⟨q - 1, by omega⟩
    simp -implicitDefEqProofs [L_laws_toCellS, retK_eq]
  | cons x r ih =>
    intro p q n hq hn hl
    obtain ⟨q, rfl⟩ : ∃ n, q = n + 1 := ⟨q - 1, by omega⟩
    have h := ih (p ++ [x]) q n (by simp at hq; omega) (by simpa using hn) hl
    simp at h
    have hx := ixa_mid eC (sz := 2) rfl .i64 p x r
    have hw := wrap_next (n := p.length) (by simp at hn; omega)
    have hn' : n = p.length + (r.length + 1) := by simpa using hn
    subst hn'
    simp +contextual -implicitDefEqProofs [L_laws_toCellS, retK_eq, cutK_eq, hx, hw, h, s_toCell, List.replicate_succ]
    omega
theorem s_toCellS (l : List CellT) (hl : l.length < 1000000000) : X_laws_toCellS [frS eC l] [] = some (.slice (some ⟨0, 0, none⟩) l.length l.length, [ownB eC l]) := by
  have h := l_toCellS l [] QQ l.length (by unfold QQ; omega) rfl hl
  simp at h
  simp +contextual -implicitDefEqProofs [X_laws_toCellS, cutK_eq, retK_eq, h, hl]
theorem s_toGrid (g : GridT) (hg : g.small) : X_laws_toGrid [gridV g] [] = some (gridO g 0 1, [ownB eC g.cs, ownB eC g.bk]) := by
  have h1 := s_toCellS g.cs hg.1
  have h2 := s_toCellS g.bk hg.2
  simp +contextual -implicitDefEqProofs [X_laws_toGrid, cutK_eq, retK_eq, h1, h2]
end Go.Ab
