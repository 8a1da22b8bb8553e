/- What the functions of the program answer, for all arguments that the theorems name as conditions. -/
import Derived.Test.YtglkdfidjalkbaaS2G2
namespace Go.Ab
set_option linter.unusedSimpArgs false
set_option linter.unusedVariables false
set_option maxHeartbeats 4000000

/-! ## Cells in blocks of one's own -/
@[simp] theorem shB_eC (N k : Nat) (l : List CellT) : shB N k (ownB eC l) = some (ownB eC l) := shB_own eC eC_hard N k l
@[simp] theorem lay_eC (p zs : List CellT) (z : CellT) (a b : Int) : lay (cellsE eC (p ++ z :: zs)) (p.length * 2) [.int .i64 a, .int .i64 b] = cellsE eC (p ++ ⟨a, b⟩ :: zs) := lay_mid eC p z zs ⟨a, b⟩
@[simp] theorem lay_eC1 (p zs : List CellT) (z : CellT) (a : Int) : lay (cellsE eC (p ++ z :: zs)) (p.length * 2) [.int .i64 a] = cellsE eC (p ++ ⟨a, z.a⟩ :: zs) := by
  have := lay_skip eC p (z :: zs) 0 [.int .i64 a]
  rw [Nat.add_zero] at this
  exact this.trans (by rw [cellsE_append]; rfl)
@[simp] theorem lay_eC2 (p zs : List CellT) (z : CellT) (a : Int) : lay (cellsE eC (p ++ z :: zs)) (p.length * 2 + 1) [.int .i64 a] = cellsE eC (p ++ ⟨z.c, a⟩ :: zs) := by
  have := lay_skip eC p (z :: zs) 1 [.int .i64 a]
  exact this.trans (by rw [cellsE_append, cellsE_cons, cellsE_cons, eC_f, eC_f]; simp [lay, lay_nil])
@[simp] theorem flat_eC (n : Nat) : (List.replicate n [Value.int .i64 0, Value.int .i64 0]).flatten = cellsE eC (List.replicate n ⟨0, 0⟩) := flat_rep eC n ⟨0, 0⟩

theorem l_toCellS (r : List CellT) : ∀ (p : List CellT) (q n : Nat), r.length < q → n = (p ++ r).length → n < 1000000000 → L_laws_toCellS 0 q 0 [frS eC (p ++ r), .slice (some ⟨0, 0, none⟩) n n, .int .i64 p.length] [ownB eC (p ++ List.replicate r.length ⟨0, 0⟩)] = some (.slice (some ⟨0, 0, none⟩) n n, [ownB eC (p ++ r)]) := by
  induction r with
  | nil =>
    intro p q n hq hn hl
    obtain ⟨q, rfl⟩ : ∃ n, q = n + 1 := ⟨q - 1, by omega⟩
    simp -implicitDefEqProofs [L_laws_toCellS, retK_eq]
  | cons x r ih =>
    intro p q n hq hn hl
    obtain ⟨q, rfl⟩ : ∃ n, q = n + 1 := ⟨q - 1, by omega⟩
    have h := ih (p ++ [x]) q n (by simp at hq; omega) (by simpa using hn) hl
    simp at h
    have hx := ixa_mid eC (sz := 2) rfl .i64 p x r
    have hw := wrap_next (n := p.length) (by simp at hn; omega)
    have hn' : n = p.length + (r.length + 1) := by simpa using hn
    subst hn'
    simp +contextual -implicitDefEqProofs [L_laws_toCellS, retK_eq, cutK_eq, hx, hw, h, s_toCell, List.replicate_succ]
    omega
theorem s_toCellS (l : List CellT) (hl : l.length < 1000000000) : X_laws_toCellS [frS eC l] [] = some (.slice (some ⟨0, 0, none⟩) l.length l.length, [ownB eC l]) := by
  have h := l_toCellS l [] QQ l.length (by unfold QQ; omega) rfl hl
  simp at h
  simp +contextual -implicitDefEqProofs [X_laws_toCellS, cutK_eq, retK_eq, h, hl]
/-- A slice of a whole block. -/
abbrev slO (n l : Nat) : Value := .slice (some ⟨n, 0, none⟩) l l
abbrev gridO (g : GridT) (a b : Nat) : Value := .agg #[.int .i64 g.r, .int .i64 g.w, slO a g.cs.length, slO b g.bk.length]
theorem s_toGrid (g : GridT) (hg : g.small) : X_laws_toGrid [gridV g] [] = some (gridO g 0 1, [ownB eC g.cs, ownB eC g.bk]) := by
  have h1 := s_toCellS g.cs hg.1
  have h2 := s_toCellS g.bk hg.2
  simp +contextual -implicitDefEqProofs [X_laws_toGrid, cutK_eq, retK_eq, h1, h2]
end Go.Ab
