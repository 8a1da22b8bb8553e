/- What the functions of the program answer, for all arguments that the theorems name as conditions. -/
import Derived.Test.YtelkckbbelillaaS5G3
namespace Go.Ab
set_option linter.unusedSimpArgs false
set_option linter.unusedVariables false
set_option maxHeartbeats 4000000

/-! ## Marks in cells -/
def markC (s : Int) : Nat → List CellT
  | 0 => []
  | n + 1 => ⟨s, s + 1⟩ :: markC (s + 1 + 1) n
@[simp] theorem markC_len (s : Int) (n : Nat) : (markC s n).length = n := by
  induction n generalizing s with
  | zero => rfl
  | succ n ih => simp [markC, ih]
def upC (s : Int) : Nat → Int
  | 0 => s
  | n + 1 => upC (s + 1 + 1) n
theorem upC_eq (s : Int) (n : Nat) : upC s n = s + 2 * n := by
  induction n generalizing s with
  | zero => simp [upC]
  | succ n ih => rw [upC, ih]; push_cast; omega
theorem wrap_one {t : Int} (h0 : 0 ≤ t) (h1 : t ≤ 1000000000000) : IntKind.i64.wrap (t + 1) = t + 1 ∧ IntKind.i64.wrap (t + 1 + 1) = t + 1 + 1 := ⟨wrap_i64 (by omega) (by omega), wrap_i64 (by omega) (by omega)⟩
theorem l_markCellS (r : List CellT) : ∀ (p : List CellT) (t : Int) (q n : Nat), r.length < q → n = (p ++ r).length → n < 1000000000 → 0 ≤ t → t + 2 * r.length ≤ 1000000000000 → L_laws_markCellS 1 q 0 [slO 0 n, .int .i64 t, .int .i64 p.length] [ownB eC (p ++ r)] = some (.int .i64 (upC t r.length), [ownB eC (p ++ markC t r.length)]) := by
  induction r with
  | nil =>
    intro p t q n hq hn hl h0 h1
    obtain ⟨q, rfl⟩ : ∃ n, q = n + 1 := ⟨q - 1, by omega⟩
    subst hn
    simp -implicitDefEqProofs [L_laws_markCellS, retK_eq, markC, upC]
  | cons x r ih =>
    intro p t q n hq hn hl h0 h1
    obtain ⟨q, rfl⟩ : ∃ n, q = n + 1 := ⟨q - 1, by omega⟩
    simp only [List.length_cons] at h1
    have h := ih (p ++ [⟨t, t + 1⟩]) (t + 1 + 1) q n (by simp at hq; omega) (by simpa using hn) hl (by omega) (by push_cast at h1; omega)
    simp at h
    have hw := wrap_next (n := p.length) (by simp at hn; omega)
    have hw2 := wrap_one h0 (by omega)
    have hn' : n = p.length + (r.length + 1) := by simpa using hn
    subst hn'
    simp +contextual -implicitDefEqProofs [L_laws_markCellS, retK_eq, cutK_eq, hw, hw2.1, hw2.2, h, markC, upC]
    omega
theorem s_markCellS (l : List CellT) (t : Int) (hl : l.length < 1000000000) (h0 : 0 ≤ t) (h1 : t ≤ 100000000000) : X_laws_markCellS [slO 0 l.length, .int .i64 t] [ownB eC l] = some (.int .i64 (upC t l.length), [ownB eC (markC t l.length)]) := by
  have h := l_markCellS l [] t QQ l.length (by unfold QQ; omega) rfl hl h0 (by omega)
  simp at h
  simp +contextual -implicitDefEqProofs [X_laws_markCellS, retK_eq, cutK_eq, h]
theorem s_markCellS_nil (t : Int) : X_laws_markCellS [.slice none 0 0, .int .i64 t] [] = some (.int .i64 t, []) := by
  have h : L_laws_markCellS 0 QQ 0 [.slice none 0 0, .int .i64 t, .int .i64 0] [] = some (.int .i64 t, []) := by
    obtain ⟨q, hq⟩ : ∃ n, QQ = n + 1 := ⟨QQ - 1, by unfold QQ; omega⟩
    rw [hq]
    simp +contextual -implicitDefEqProofs [L_laws_markCellS, retK_eq, cutK_eq]
  simp +contextual -implicitDefEqProofs [X_laws_markCellS, retK_eq, cutK_eq, h]
def upG (g : GridT) (t : Int) : Int := upC (upC t g.cs.length) g.bk.length
def markG (g : GridT) (t : Int) : GridT := ⟨g.r, g.w, markC t g.cs.length, markC (upC t g.cs.length) g.bk.length⟩
theorem s_markGrid (g : GridT) (t : Int) (hg : g.small) (h0 : 0 ≤ t) (h1 : t ≤ 10000000000) : X_laws_markGrid [gridO g 0 1, .int .i64 t] [ownB eC g.cs, ownB eC g.bk] = some (.int .i64 (upG g t), [ownB eC (markG g t).cs, ownB eC (markG g t).bk]) := by
  obtain ⟨g1, g2⟩ := hg
  have c1 := s_markCellS g.cs t g1 h0 (by omega)
  have c2 := s_markCellS g.bk (upC t g.cs.length) g2 (by rw [upC_eq]; omega) (by rw [upC_eq]; omega)
  simp +contextual -implicitDefEqProofs [X_laws_markGrid, retK_eq, cutK_eq, c1, c2, upG, markG]
abbrev gridN (g : GridT) (a : Nat) : Value := .agg #[.int .i64 g.r, .int .i64 g.w, slO a g.cs.length, .slice none 0 0]
abbrev gridZ (g : GridT) : Value := .agg #[.int .i64 g.r, .int .i64 g.w, .slice none 0 0, .slice none 0 0]
theorem s_markGridN (g : GridT) (t : Int) (hg : g.small) (hb : g.bk = []) (h0 : 0 ≤ t) (h1 : t ≤ 10000000000) : X_laws_markGrid [gridN g 0, .int .i64 t] [ownB eC g.cs] = some (.int .i64 (upG g t), [ownB eC (markG g t).cs]) := by
  obtain ⟨g1, g2⟩ := hg
  have c1 := s_markCellS g.cs t g1 h0 (by omega)
  simp +contextual -implicitDefEqProofs [X_laws_markGrid, retK_eq, cutK_eq, c1, s_markCellS_nil, upG, markG, hb, upC]
theorem s_markGridZ (g : GridT) (t : Int) (ha : g.cs = []) (hb : g.bk = []) : X_laws_markGrid [gridZ g, .int .i64 t] [] = some (.int .i64 (upG g t), []) := by
  simp +contextual -implicitDefEqProofs [X_laws_markGrid, retK_eq, cutK_eq, s_markCellS_nil, upG, markG, ha, hb, upC]

theorem l_heldCellS (n : Nat) : ∀ (p : List CellT) (t : Int) (q : Nat), n < q → p.length + n < 1000000000 → 0 ≤ t → t + 2 * n ≤ 1000000000000 → L_laws_heldCellS 0 q 0 [frS eC (p ++ markC t n), .int .i64 t, .int .i64 p.length] [] = some (.int .i64 (upC t n), []) := by
  induction n with
  | zero =>
    intro p t q hq hn h0 h1
    obtain ⟨q, rfl⟩ : ∃ n, q = n + 1 := ⟨q - 1, by omega⟩
    simp -implicitDefEqProofs [L_laws_heldCellS, retK_eq, markC, upC]
  | succ n ih =>
    intro p t q hq hn h0 h1
    obtain ⟨q, rfl⟩ : ∃ n, q = n + 1 := ⟨q - 1, by omega⟩
    have h := ih (p ++ [⟨t, t + 1⟩]) (t + 1 + 1) q (by omega) (by simp; omega) (by omega) (by push_cast at h1; omega)
    simp at h
    have hx := ixa_mid eC (sz := 2) rfl .i64 p ⟨t, t + 1⟩ (markC (t + 1 + 1) n)
    have hw := wrap_next (n := p.length) (by omega)
    have hw2 := wrap_one h0 (by omega)
    simp +contextual -implicitDefEqProofs [L_laws_heldCellS, retK_eq, cutK_eq, hx, hw, hw2.1, hw2.2, h, markC, upC]
theorem s_heldCellS (n : Nat) (t : Int) (hn : n < 1000000000) (h0 : 0 ≤ t) (h1 : t ≤ 100000000000) : X_laws_heldCellS [frS eC (markC t n), .int .i64 t] [] = some (.int .i64 (upC t n), []) := by
  have h := l_heldCellS n [] t QQ (by unfold QQ; omega) (by simpa using hn) h0 (by omega)
  simp at h
  simp +contextual -implicitDefEqProofs [X_laws_heldCellS, retK_eq, cutK_eq, h]
theorem s_heldGrid (g : GridT) (t : Int) (hg : g.small) (h0 : 0 ≤ t) (h1 : t ≤ 10000000000) : X_laws_heldGrid [gridV (markG g t), .int .i64 t] [] = some (.int .i64 (upG g t), []) := by
  obtain ⟨g1, g2⟩ := hg
  have c1 := s_heldCellS g.cs.length t g1 h0 (by omega)
  have b1 : 0 ≤ upC t g.cs.length := by rw [upC_eq]; omega
  have c2 := s_heldCellS g.bk.length (upC t g.cs.length) g2 b1 (by rw [upC_eq]; omega)
  have b2 : 0 ≤ upC (upC t g.cs.length) g.bk.length := by rw [upC_eq]; omega
  simp +contextual -implicitDefEqProofs [X_laws_heldGrid, retK_eq, cutK_eq, c1, c2, upG, markG]
  rw [if_neg (by omega), if_neg (by omega)]
theorem upG_pos (g : GridT) {t : Int} (h0 : 0 ≤ t) : ¬ upG g t < 0 := by unfold upG; rw [upC_eq, upC_eq]; omega
end Go.Ab
