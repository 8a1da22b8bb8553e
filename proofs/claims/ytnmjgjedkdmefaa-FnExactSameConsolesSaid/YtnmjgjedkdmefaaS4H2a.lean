/- What the functions of the program answer, for all arguments that the theorems name as conditions. -/
import Derived.Test.YtnmjgjedkdmefaaS4H1a
namespace Go.Ab
set_option linter.unusedSimpArgs false
set_option linter.unusedVariables false
set_option maxHeartbeats 4000000

/-! ## Terminals -/
structure VtT where
  d : DecT
  p : ParT
  s : ScrT
abbrev vtT (v : VtT) (x a b c d : Value) (rest : List Value) : List Value := .int .i64 v.d.l :: .int .i64 v.d.o :: .int .i64 v.d.v :: .int .i64 v.p.k :: .int .i64 v.p.s :: .bool v.p.lead :: x :: scrT v.s a b c d rest
abbrev vtL (v : VtT) (x a b c d : Value) : List Value := vtT v x a b c d []
abbrev vtV (v : VtT) : Value := .agg (vtL v (frS eI6 v.p.ns) (frS eC v.s.g.cs) (frS eC v.s.g.bk) (frS eB v.s.tabs) (frS eI6 v.s.sets)).toArray
abbrev vtP (v : VtT) (rest : List Value) : Value := roP (vtT v (frS eI6 v.p.ns) (frS eC v.s.g.cs) (frS eC v.s.g.bk) (frS eB v.s.tabs) (frS eI6 v.s.sets) rest)
abbrev vtO (v : VtT) (x a b c d : Nat) : Value := .agg (vtL v (slO x v.p.ns.length) (slO a v.s.g.cs.length) (slO b v.s.g.bk.length) (slO c v.s.tabs.length) (slO d v.s.sets.length)).toArray
def VtT.small (v : VtT) : Prop := v.p.ns.length < 1000000000 ∧ v.s.small
def VtT.fit (v : VtT) : Prop := v.p.ns.length ≤ 9223372036854775807 ∧ v.s.fit

theorem s_toDecoder (d : DecT) : X_laws_toDecoder [decV d] [] = some (decV d, []) := by
  simp +contextual -implicitDefEqProofs [X_laws_toDecoder, retK_eq]
theorem s_toParser (p : ParT) (hp : p.ns.length < 1000000000) : X_laws_toParser [parV p] [] = some (parO p 0, [ownB eI6 p.ns]) := by
  have h := s_toInt64S p.ns hp
  simp +contextual -implicitDefEqProofs [X_laws_toParser, retK_eq, h]
theorem s_toVt (v : VtT) (hv : v.small) : X_laws_toVt [vtV v] [] = some (vtO v 0 1 2 3 4, [ownB eI6 v.p.ns, ownB eC v.s.g.cs, ownB eC v.s.g.bk, ownB eB v.s.tabs, ownB eI6 v.s.sets]) := by
  have h1 := s_toDecoder v.d
  have h2 := s_toParser v.p hv.1
  have h3 := s_toScreen v.s hv.2
  simp (maxSteps := 2000000) +contextual -implicitDefEqProofs [X_laws_toVt, retK_eq, h1, h2, h3]
theorem s_eqDecoder (d : DecT) : X_laws_eqDecoder [decV d, decV d] [] = some (.bool true, []) := by
  simp +contextual -implicitDefEqProofs [X_laws_eqDecoder, retK_eq]
theorem s_eqParser (p : ParT) (hp : p.ns.length < 1000000000) : X_laws_eqParser [parV p, parV p] [] = some (.bool true, []) := by
  have h := s_eqInt64S p.ns hp
  simp +contextual -implicitDefEqProofs [X_laws_eqParser, retK_eq, h]
theorem s_eqVt (v : VtT) (hv : v.small) : X_laws_eqVt [vtV v, vtV v] [] = some (.bool true, []) := by
  have h1 := s_eqDecoder v.d
  have h2 := s_eqParser v.p hv.1
  have h3 := s_eqScreen v.s hv.2
  simp (maxSteps := 2000000) +contextual -implicitDefEqProofs [X_laws_eqVt, retK_eq, h1, h2, h3]
def szP (p : ParT) (left : Int) : Int := szN p.ns.length left
theorem s_szParser (p : ParT) (left : Int) (hp : p.ns.length ≤ 9223372036854775807) (h0 : 0 ≤ left) (h1 : left ≤ 1048576) : X_laws_szParser [parV p, .int .i64 left] [] = some (.int .i64 (szP p left), []) := by
  have c1 := s_szInt64S p.ns left hp h0 h1
  have : szN p.ns.length left < 0 → szN p.ns.length left = -1 := by unfold szN; split <;> omega
  by_cases h : szN p.ns.length left < 0 <;> simp +contextual -implicitDefEqProofs [X_laws_szParser, retK_eq, c1, h, szP, this]
def VtT.szl (v : VtT) (left : Int) : Int := if szP v.p left < 0 then -1 else if v.s.szl (szP v.p left) < 0 then -1 else v.s.szl (szP v.p left)
theorem s_szVt (v : VtT) (left : Int) (hv : v.fit) (h0 : 0 ≤ left) (h1 : left ≤ 1048576) : X_laws_szVt [vtV v, .int .i64 left] [] = some (.int .i64 (v.szl left), []) := by
  have c1 := s_szParser v.p left hv.1 h0 h1
  by_cases h : szP v.p left < 0
  · simp (maxSteps := 2000000) +contextual -implicitDefEqProofs [X_laws_szVt, retK_eq, c1, h, VtT.szl]
  · have c2 := s_szScreen v.s (szP v.p left) hv.2 (by omega) (szN_le h1)
    by_cases h2 : v.s.szl (szP v.p left) < 0 <;> simp (maxSteps := 2000000) +contextual -implicitDefEqProofs [X_laws_szVt, retK_eq, c1, c2, h, h2, VtT.szl]
theorem szv_small {v : VtT} {x : Int} (hx : x ≤ 1048576) (h : ¬ v.szl x < 0) : v.small := by
  unfold VtT.szl at h
  split at h
  · omega
  · rename_i h1
    split at h
    · omega
    · rename_i h2
      exact ⟨szN_small (x := x) hx (by unfold szP at h1; omega), szs_small (x := szP v.p x) (szN_le hx) h2⟩
end Go.Ab
