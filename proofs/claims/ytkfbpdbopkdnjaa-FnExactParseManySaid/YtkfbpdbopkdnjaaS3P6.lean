/- What the functions of the program answer, for all arguments that the theorems name as conditions. -/
import Derived.Test.YtkfbpdbopkdnjaaS3B3
import Derived.Test.YtkfbpdbopkdnjaaS3P0
namespace Go.Ab
set_option linter.unusedSimpArgs false
set_option linter.unusedVariables false
set_option maxHeartbeats 8000000

/-! ## The laws' helpers over parsers and actions -/
theorem s_toParser (p : ParT) (hp : p.ns.length < 1000000000) : X_laws_toParser [parV p] [] = some (parO p 0, [ownB eI6 p.ns]) := by
  have h := s_toInt64S p.ns hp
  simp +contextual -implicitDefEqProofs [X_laws_toParser, retK_eq, h]
theorem s_eqParser (p : ParT) (hp : p.ns.length < 1000000000) : X_laws_eqParser [parV p, parV p] [] = some (.bool true, []) := by
  have h := s_eqInt64S p.ns hp
  simp +contextual -implicitDefEqProofs [X_laws_eqParser, retK_eq, h]
def szP (p : ParT) (left : Int) : Int := szN p.ns.length left
theorem s_szParser (p : ParT) (left : Int) (hp : p.ns.length ≤ 9223372036854775807) (h0 : 0 ≤ left) (h1 : left ≤ 1048576) : X_laws_szParser [parV p, .int .i64 left] [] = some (.int .i64 (szP p left), []) := by
  have c1 := s_szInt64S p.ns left hp h0 h1
  have : szN p.ns.length left < 0 → szN p.ns.length left = -1 := by unfold szN; split <;> omega
  by_cases h : szN p.ns.length left < 0 <;> simp +contextual -implicitDefEqProofs [X_laws_szParser, retK_eq, c1, h, szP, this]
theorem s_markParser (p : ParT) (v : Value) (m : Mem) (t : Int) (hs : SLT p.ns v m 0) (hl : p.ns.length < 1000000000) (h0 : 0 ≤ t) (h1 : t ≤ 10000000000) : ∃ m', SLT (markI t p.ns.length) v m' 0 ∧ X_laws_markParser [parW p v, .int .i64 t] m = some (.int .i64 (t + p.ns.length), m') := by
  rcases hs with ⟨e, rfl, rfl | rfl⟩ | ⟨rfl, rfl⟩
  · refine ⟨[], .inl ⟨by rw [e]; rfl, rfl, .inl rfl⟩, ?_⟩
    simp +contextual -implicitDefEqProofs [X_laws_markParser, retK_eq, s_markInt64S_nil, e]
  · refine ⟨[], .inl ⟨by rw [e]; rfl, rfl, .inr rfl⟩, ?_⟩
    simp +contextual -implicitDefEqProofs [X_laws_markParser, retK_eq, s_markInt64S_ro, e]
  · refine ⟨[ownB eI6 (markI t p.ns.length)], .inr ⟨by simp, rfl⟩, ?_⟩
    have h := s_markInt64S p.ns t hl h0 (by omega)
    simp +contextual -implicitDefEqProofs [X_laws_markParser, retK_eq, h]
abbrev actV (a : ActT) : Value := actW a (frS eI6 a.ns)
theorem s_eqAction (a : ActT) (h : a.ns.length < 1000000000) : X_laws_eqAction [actV a, actV a] [] = some (.bool true, []) := by
  have h := s_eqInt64S a.ns h
  simp +contextual -implicitDefEqProofs [X_laws_eqAction, retK_eq, h]
theorem s_heldParser (p : ParT) (t : Int) (n : Nat) (hp : p.ns = markI t n) (hn : n < 1000000000) (h0 : 0 ≤ t) (h1 : t ≤ 10000000000) : X_laws_heldParser [parV p, .int .i64 t] [] = some (.int .i64 (t + n), []) := by
  have h := s_heldInt64S n t hn h0 (by omega)
  have g : ¬ t + (n : Int) < 0 := by omega
  simp +contextual -implicitDefEqProofs [X_laws_heldParser, retK_eq, hp, h, g]
end Go.Ab
