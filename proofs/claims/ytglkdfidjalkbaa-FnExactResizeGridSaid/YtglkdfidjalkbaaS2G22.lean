/- What the functions of the program answer, for all arguments that the theorems name as conditions. -/
import Derived.Test.YtglkdfidjalkbaaS2G10b
namespace Go.Ab
set_option linter.unusedSimpArgs false
set_option linter.unusedVariables false
set_option maxHeartbeats 8000000

/-! ## Marks in a part of a block -/
theorem layP1 (pre p zs : List CellT) (z : CellT) (a : Int) : lay (cellsE eC (pre ++ (p ++ z :: zs))) (pre.length * 2 + p.length * 2) [.int .i64 a] = cellsE eC (pre ++ (p ++ ⟨a, z.a⟩ :: zs)) := by
  have h := lay_eC1 (pre ++ p) zs z a
  rw [List.length_append, Nat.add_mul, List.append_assoc, List.append_assoc] at h
  exact h
theorem layP2 (pre p zs : List CellT) (z : CellT) (a : Int) : lay (cellsE eC (pre ++ (p ++ z :: zs))) (pre.length * 2 + p.length * 2 + 1) [.int .i64 a] = cellsE eC (pre ++ (p ++ ⟨z.c, a⟩ :: zs)) := by
  have h := lay_eC2 (pre ++ p) zs z a
  rw [List.length_append, Nat.add_mul, List.append_assoc, List.append_assoc] at h
  exact h
theorem l_markCellP (pre post : List CellT) (c : Nat) (r : List CellT) : ∀ (p : List CellT) (t : Int) (q n : Nat), r.length < q → n = (p ++ r).length → n < 1000000000 → 0 ≤ t → t + 2 * r.length ≤ 1000000000000 → L_laws_markCellS 1 q 0 [.slice (some ⟨0, pre.length * 2, none⟩) n c, .int .i64 t, .int .i64 p.length] [ownB eC (pre ++ (p ++ (r ++ post)))] = some (.int .i64 (upC t r.length), [ownB eC (pre ++ (p ++ (markC t r.length ++ post)))]) := by
  induction r with
  | nil =>
    intro p t q n hq hn hl h0 h1
    obtain ⟨q, rfl⟩ : ∃ n, q = n + 1 := ⟨q - 1, by omega⟩
    subst hn
    simp -implicitDefEqProofs [L_laws_markCellS, retK_eq, markC, upC]
  | cons x r ih =>
    intro p t q n hq hn hl h0 h1
    obtain ⟨q, rfl⟩ : ∃ n, q = n + 1 := ⟨q - 1, by omega⟩
    simp only [List.length_cons] at h1
    have h := ih (p ++ [⟨t, t + 1⟩]) (t + 1 + 1) q n (by simp at hq; omega) (by simpa using hn) hl (by omega) (by push_cast at h1; omega)
    simp at h
    have hw := wrap_next (n := p.length) (by simp at hn; omega)
    have hw2 := wrap_one h0 (by omega)
    have hn' : n = p.length + (r.length + 1) := by simpa using hn
    have y1 := layP1 pre p (r ++ post) x t
    have y2 := layP2 pre p (r ++ post) ⟨t, x.a⟩ (t + 1)
    subst hn'
    simp +contextual -implicitDefEqProofs [L_laws_markCellS, retK_eq, cutK_eq, hw, hw2.1, hw2.2, h, markC, upC, y1, y2]
    omega
theorem s_markCellP (pre post l : List CellT) (c : Nat) (t : Int) (hl : l.length < 1000000000) (h0 : 0 ≤ t) (h1 : t ≤ 100000000000) : X_laws_markCellS [.slice (some ⟨0, pre.length * 2, none⟩) l.length c, .int .i64 t] [ownB eC (pre ++ (l ++ post))] = some (.int .i64 (upC t l.length), [ownB eC (pre ++ (markC t l.length ++ post))]) := by
  have h := l_markCellP pre post c l [] t QQ l.length (by unfold QQ; omega) rfl hl h0 (by omega)
  simp at h
  simp +contextual -implicitDefEqProofs [X_laws_markCellS, retK_eq, cutK_eq, h]
abbrev slQ (b o n c : Nat) : Value := .slice (some ⟨b, o, none⟩) n c
theorem s_markGridResultP (g : GridT) (pre post : List CellT) (c cb : Nat) (t : Int) (hg : g.small) (h0 : 0 ≤ t) (h1 : t ≤ 10000000000) : X_laws_markGridResult [.agg #[.int .i64 0, .int .i64 g.r, .int .i64 g.w, slQ 0 0 g.cs.length c, slQ 1 (pre.length * 2) g.bk.length cb], .int .i64 t] [ownB eC (g.cs ++ post), ownB eC (pre ++ g.bk)] = some (.int .i64 (upG g t), [ownB eC ((markG g t).cs ++ post), ownB eC (pre ++ (markG g t).bk)]) := by
  obtain ⟨g1, g2⟩ := hg
  have c1 := s_markCellP [] post g.cs c t g1 h0 (by omega)
  have c2 := s_markCellP pre [] g.bk cb (upC t g.cs.length) g2 (by rw [upC_eq]; omega) (by rw [upC_eq]; omega)
  simp at c1 c2
  have d : X_laws_markGrid [.agg #[.int .i64 g.r, .int .i64 g.w, slQ 0 0 g.cs.length c, slQ 1 (pre.length * 2) g.bk.length cb], .int .i64 t] [ownB eC (g.cs ++ post), ownB eC (pre ++ g.bk)] = some (.int .i64 (upG g t), [ownB eC ((markG g t).cs ++ post), ownB eC (pre ++ (markG g t).bk)]) := by
    simp +contextual -implicitDefEqProofs [X_laws_markGrid, retK_eq, cutK_eq, c1, c2, upG, markG]
  simp +contextual -implicitDefEqProofs [X_laws_markGridResult, retK_eq, cutK_eq, d]
theorem s_markGridResultPE (g : GridT) (post : List CellT) (c : Nat) (t : Int) (hg : g.small) (hb : g.bk = []) (h0 : 0 ≤ t) (h1 : t ≤ 10000000000) : X_laws_markGridResult [.agg #[.int .i64 0, .int .i64 g.r, .int .i64 g.w, slQ 0 0 g.cs.length c, roS 0 []], .int .i64 t] [ownB eC (g.cs ++ post)] = some (.int .i64 (upG g t), [ownB eC ((markG g t).cs ++ post)]) := by
  obtain ⟨g1, g2⟩ := hg
  have c1 := s_markCellP [] post g.cs c t g1 h0 (by omega)
  simp at c1
  have d : X_laws_markGrid [.agg #[.int .i64 g.r, .int .i64 g.w, slQ 0 0 g.cs.length c, roS 0 []], .int .i64 t] [ownB eC (g.cs ++ post)] = some (.int .i64 (upG g t), [ownB eC ((markG g t).cs ++ post)]) := by
    simp +contextual -implicitDefEqProofs [X_laws_markGrid, retK_eq, cutK_eq, c1, s_markCellS_ro, upG, markG, hb, upC]
  simp +contextual -implicitDefEqProofs [X_laws_markGridResult, retK_eq, cutK_eq, d]
theorem fz_post (l post : List CellT) (k : Nat) (m : Mem) : fzO (k + 1) m (some (ownB eC (l ++ post))) 0 l.length = some (frS eC l) := by
  have h := fzO_part eC k m (l := l ++ post) (o := 0) (a := 0) (len := l.length) (by simp) (by simp)
  simpa using h
theorem fz_pre (pre l : List CellT) (k : Nat) (m : Mem) : fzO (k + 1) m (some (ownB eC (pre ++ l))) (pre.length * 2) l.length = some (frS eC l) := by
  have h := fzO_part eC k m (l := pre ++ l) (o := pre.length * 2) (a := pre.length) (len := l.length) rfl (by simp)
  simpa using h
theorem markG_cl (g : GridT) (t : Int) : (markG g t).cs.length = g.cs.length := by simp [markG]
theorem markG_bl (g : GridT) (t : Int) : (markG g t).bk.length = g.bk.length := by simp [markG]
end Go.Ab
