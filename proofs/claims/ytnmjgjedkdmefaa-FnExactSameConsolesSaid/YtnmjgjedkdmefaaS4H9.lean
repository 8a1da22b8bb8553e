/- What the functions of the program answer, for all arguments that the theorems name as conditions. -/
import Derived.Test.YtnmjgjedkdmefaaS4H8
namespace Go.Ab
set_option linter.unusedSimpArgs false
set_option linter.unusedVariables false
set_option maxHeartbeats 4000000

/-! ## Sameness of parsers, grids, screens -/
def sameP (p p' : ParT) : Bool := decide (p.k = p'.k) && (decide (p.s = p'.s) && (decide (p.lead = p'.lead) && p.ns == p'.ns))
theorem s_impl_SameParsers (p p' : ParT) (h1 : p.ns.length < 1000000000) : X_impl_SameParsers [parV p, parV p'] [] = some (.bool (sameP p p'), []) := by
  have c1 := s_slices_Equal_int64_int64 p.ns p'.ns h1
  unfold sameP
  rcases Classical.propComplete (p.k = p'.k) with e1 | e1 <;> rcases Classical.propComplete (p.s = p'.s) with e2 | e2 <;> rcases Classical.propComplete (p.lead = p'.lead) with e3 | e3 <;> simp -implicitDefEqProofs [X_impl_SameParsers, retK_eq, c1, e1, e2, e3]
theorem s_spec_l4Same (p p' : ParT) (h1 : p.ns.length < 1000000000) (r1 r2 : List Value) : X_spec_l4Same [parP p r1, parP p' r2] [] = some (.bool (sameP p p'), []) := by
  have c1 := s_spec_l4Ints p.ns p'.ns h1
  unfold sameP
  rcases Classical.propComplete (p.k = p'.k) with e1 | e1 <;> rcases Classical.propComplete (p.s = p'.s) with e2 | e2 <;> rcases Classical.propComplete (p.lead = p'.lead) with e3 | e3 <;> simp -implicitDefEqProofs [X_spec_l4Same, retK_eq, c1, e1, e2, e3]
def sameG (g g' : GridT) : Bool := decide (g.r = g'.r) && (decide (g.w = g'.w) && (g.cs == g'.cs && g.bk == g'.bk))
theorem s_impl_SameGrids (g g' : GridT) (h1 : g.small) : X_impl_SameGrids [gridV g, gridV g'] [] = some (.bool (sameG g g'), []) := by
  have c1 := s_slices_Equal_impl_Cell_impl_Cell g.cs g'.cs h1.1
  have c2 := s_slices_Equal_impl_Cell_impl_Cell g.bk g'.bk h1.2
  unfold sameG
  rcases Classical.propComplete (g.r = g'.r) with e1 | e1 <;> rcases Classical.propComplete (g.w = g'.w) with e2 | e2 <;> cases e3 : (g.cs == g'.cs) <;> simp -implicitDefEqProofs [X_impl_SameGrids, retK_eq, c1, c2, e1, e2, e3]
def shownA (s t : ScrT) : Bool := decide (s.late = t.late) && (decide (s.org = t.org) && (decide (s.wrp = t.wrp) && decide (s.ins = t.ins)))
def shownB (s t : ScrT) : Bool := decide (s.row = t.row) && (decide (s.col = t.col) && (decide (s.attr = t.attr) && (decide (s.top = t.top) && (decide (s.bot = t.bot) && decide (s.cs = t.cs)))))
def sameG2 (s t : ScrT) : Bool := decide (s.g.r = t.g.r) && (decide (s.g.w = t.g.w) && decide (s.g.cs = t.g.cs))
def shown (s t : ScrT) : Bool := sameG2 s t && (shownA s t && (shownB s t && (decide (s.tabs = t.tabs) && s.sets == t.sets)))
theorem shownA_cases (s t : ScrT) : (shownA s t = true ∧ (s.late = t.late) = True ∧ (s.org = t.org) = True ∧ (s.wrp = t.wrp) = True ∧ (s.ins = t.ins) = True) ∨ (shownA s t = false ∧ (s.late = t.late) = False) ∨ (shownA s t = false ∧ (s.late = t.late) = True ∧ (s.org = t.org) = False) ∨ (shownA s t = false ∧ (s.late = t.late) = True ∧ (s.org = t.org) = True ∧ (s.wrp = t.wrp) = False) ∨ (shownA s t = false ∧ (s.late = t.late) = True ∧ (s.org = t.org) = True ∧ (s.wrp = t.wrp) = True ∧ (s.ins = t.ins) = False) := by
  unfold shownA
  by_cases e0 : s.late = t.late <;> by_cases e1 : s.org = t.org <;> by_cases e2 : s.wrp = t.wrp <;> by_cases e3 : s.ins = t.ins <;> simp [*]
theorem shownB_cases (s t : ScrT) : (shownB s t = true ∧ (s.row = t.row) = True ∧ (s.col = t.col) = True ∧ (s.attr = t.attr) = True ∧ (s.top = t.top) = True ∧ (s.bot = t.bot) = True ∧ (s.cs = t.cs) = True) ∨ (shownB s t = false ∧ (s.row = t.row) = False) ∨ (shownB s t = false ∧ (s.row = t.row) = True ∧ (s.col = t.col) = False) ∨ (shownB s t = false ∧ (s.row = t.row) = True ∧ (s.col = t.col) = True ∧ (s.attr = t.attr) = False) ∨ (shownB s t = false ∧ (s.row = t.row) = True ∧ (s.col = t.col) = True ∧ (s.attr = t.attr) = True ∧ (s.top = t.top) = False) ∨ (shownB s t = false ∧ (s.row = t.row) = True ∧ (s.col = t.col) = True ∧ (s.attr = t.attr) = True ∧ (s.top = t.top) = True ∧ (s.bot = t.bot) = False) ∨ (shownB s t = false ∧ (s.row = t.row) = True ∧ (s.col = t.col) = True ∧ (s.attr = t.attr) = True ∧ (s.top = t.top) = True ∧ (s.bot = t.bot) = True ∧ (s.cs = t.cs) = False) := by
  unfold shownB
  by_cases e0 : s.row = t.row <;> by_cases e1 : s.col = t.col <;> by_cases e2 : s.attr = t.attr <;> by_cases e3 : s.top = t.top <;> by_cases e4 : s.bot = t.bot <;> by_cases e5 : s.cs = t.cs <;> simp [*]
theorem s_impl_SameShown (s t : ScrT) (h1 : s.small) : X_impl_SameShown [scrV s, scrV t] [] = some (.bool (shown s t), []) := by
  have c1 := s_impl_SameGrids ⟨s.g.r, s.g.w, s.g.cs, []⟩ ⟨t.g.r, t.g.w, t.g.cs, []⟩ ⟨h1.1.1, by simp⟩
  simp only [gridV, frS_nil] at c1
  have c2 := s_slices_Equal_bool_bool s.tabs t.tabs h1.2.1
  have c3 := s_slices_Equal_int64_int64 s.sets t.sets h1.2.2
  have hG : sameG ⟨s.g.r, s.g.w, s.g.cs, []⟩ ⟨t.g.r, t.g.w, t.g.cs, []⟩ = sameG2 s t := by
    simp only [sameG, sameG2]
    cases h : decide (s.g.cs = t.g.cs) <;> simp at h <;> simp [h]
  rw [hG] at c1
  clear hG
  rcases shownA_cases s t with ⟨eA, a0, a1, a2, a3⟩ | ⟨eA, a0⟩ | ⟨eA, a0, a1⟩ | ⟨eA, a0, a1, a2⟩ | ⟨eA, a0, a1, a2, a3⟩ <;> rcases shownB_cases s t with ⟨eB, b0, b1, b2, b3, b4, b5⟩ | ⟨eB, b0⟩ | ⟨eB, b0, b1⟩ | ⟨eB, b0, b1, b2⟩ | ⟨eB, b0, b1, b2, b3⟩ | ⟨eB, b0, b1, b2, b3, b4⟩ | ⟨eB, b0, b1, b2, b3, b4, b5⟩ <;>
    simp (maxSteps := 4000000) -implicitDefEqProofs [X_impl_SameShown, retK_eq, shown, *] <;> cases sameG2 s t <;> rcases Classical.propComplete (s.tabs = t.tabs) with e | e <;> simp [e]
end Go.Ab
