/- What the functions of the program answer, for all arguments that the theorems name as conditions. -/
import Derived.Test.YtnmjgjedkdmefaaS4H4
namespace Go.Ab
set_option linter.unusedSimpArgs false
set_option linter.unusedVariables false
set_option maxHeartbeats 4000000

/-! ## Consoles -/
structure ConT where
  v : VtT
  w : WayT
  l : LnT
abbrev conT (c : ConT) (x a b cc d : Value) : List Value := vtT c.v x a b cc d (wayT c.w (lnT c.l []))
abbrev conV (c : ConT) : Value := .agg (conT c (frS eI6 c.v.p.ns) (frS eC c.v.s.g.cs) (frS eC c.v.s.g.bk) (frS eB c.v.s.tabs) (frS eI6 c.v.s.sets)).toArray
abbrev conP (c : ConT) : Value := roP (conT c (frS eI6 c.v.p.ns) (frS eC c.v.s.g.cs) (frS eC c.v.s.g.bk) (frS eB c.v.s.tabs) (frS eI6 c.v.s.sets))
abbrev conO (c : ConT) : Value := .agg (conT c (slO 0 c.v.p.ns.length) (slO 1 c.v.s.g.cs.length) (slO 2 c.v.s.g.bk.length) (slO 3 c.v.s.tabs.length) (slO 4 c.v.s.sets.length)).toArray
def ConT.small (c : ConT) : Prop := c.v.small ∧ c.l.small
def ConT.fit (c : ConT) : Prop := c.v.fit ∧ c.l.fit
theorem s_toConsole (c : ConT) (hc : c.small) : X_laws_toConsole [conV c] [] = some (conO c, [ownB eI6 c.v.p.ns, ownB eC c.v.s.g.cs, ownB eC c.v.s.g.bk, ownB eB c.v.s.tabs, ownB eI6 c.v.s.sets]) := by
  have h1 := s_toVt c.v hc.1
  have h2 := s_toWay c.w
  have h3 := s_toLine c.l hc.2
  simp (maxSteps := 2000000) +contextual -implicitDefEqProofs [X_laws_toConsole, retK_eq, h1, h2, h3]
theorem s_eqConsole (c : ConT) (hc : c.small) : X_laws_eqConsole [conV c, conV c] [] = some (.bool true, []) := by
  have h1 := s_eqVt c.v hc.1
  have h2 := s_eqWay c.w
  have h3 := s_eqLine c.l hc.2
  simp (maxSteps := 2000000) +contextual -implicitDefEqProofs [X_laws_eqConsole, retK_eq, h1, h2, h3]
def ConT.szl (c : ConT) (left : Int) : Int := if c.v.szl left < 0 then -1 else if c.l.szl (c.v.szl left) < 0 then -1 else c.l.szl (c.v.szl left)
theorem szl_leS {s : ScrT} {x : Int} (h : x ≤ 1048576) : s.szl x ≤ 1048576 := by
  unfold ScrT.szl
  have h1 := szl_le (g := s.g) h
  have h2 := szN_le (n := s.tabs.length) h1
  have h3 := szN_le (n := s.sets.length) h2
  split
  · omega
  · split
    · omega
    · split <;> omega
theorem szl_leV {v : VtT} {x : Int} (h : x ≤ 1048576) : v.szl x ≤ 1048576 := by
  unfold VtT.szl
  have h1 : szP v.p x ≤ 1048576 := szN_le h
  have h2 := szl_leS (s := v.s) h1
  split
  · omega
  · split <;> omega
theorem s_szConsole (c : ConT) (left : Int) (hc : c.fit) (h0 : 0 ≤ left) (h1 : left ≤ 1048576) : X_laws_szConsole [conV c, .int .i64 left] [] = some (.int .i64 (c.szl left), []) := by
  have c1 := s_szVt c.v left hc.1 h0 h1
  by_cases h : c.v.szl left < 0
  · simp (maxSteps := 2000000) +contextual -implicitDefEqProofs [X_laws_szConsole, retK_eq, c1, h, ConT.szl]
  · have c2 := s_szLine c.l (c.v.szl left) hc.2 (by omega) (szl_leV h1)
    by_cases h2 : c.l.szl (c.v.szl left) < 0 <;> simp (maxSteps := 2000000) +contextual -implicitDefEqProofs [X_laws_szConsole, retK_eq, c1, c2, h, h2, ConT.szl]
theorem szl_leL {l : LnT} {x : Int} (h : x ≤ 1048576) : l.szl x ≤ 1048576 := by
  unfold LnT.szl
  split
  · omega
  · exact szN_le (szBS_le h)
theorem szl_leC {c : ConT} {x : Int} (h : x ≤ 1048576) : c.szl x ≤ 1048576 := by
  unfold ConT.szl
  have h1 := szl_leV (v := c.v) h
  have h2 := szl_leL (l := c.l) h1
  split
  · omega
  · split <;> omega
theorem szc_small {c : ConT} {x : Int} (hx : x ≤ 1048576) (h : ¬ c.szl x < 0) : c.small := by
  unfold ConT.szl at h
  split at h
  · omega
  · rename_i h1
    split at h
    · omega
    · rename_i h2
      exact ⟨szv_small hx h1, szl_ln (x := c.v.szl x) (szl_leV hx) h2⟩
end Go.Ab
