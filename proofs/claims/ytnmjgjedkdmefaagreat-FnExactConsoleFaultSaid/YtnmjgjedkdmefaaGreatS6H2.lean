/- What the functions of the program answer, for all arguments that the theorems name as conditions. -/
import Derived.Test.YtnmjgjedkdmefaaGreatS6H1
namespace Go.Ab
set_option linter.unusedSimpArgs false
set_option linter.unusedVariables false
set_option maxHeartbeats 4000000

/-! ## Terminals -/
def firstV : List Int → Int
  | [] => 0
  | x :: r => if x = 0 then firstV r else x
theorem l_impl_first (r : List Int) : ∀ (p : List Int) (q n : Nat), r.length < q → n = (p ++ r).length → n < 1000000000 → L_impl_first 0 q 0 [frS eI6 (p ++ r), .int .i64 n, .int .i64 p.length] [] = some (.int .i64 (firstV r), []) := by
  induction r with
  | nil =>
    intro p q n hq hn hl
    obtain ⟨q, rfl⟩ : ∃ n, q = n + 1 := ⟨q - 1, by omega⟩
    subst hn
    simp +contextual -implicitDefEqProofs [L_impl_first, retK_eq, firstV]
  | cons x r ih =>
    intro p q n hq hn hl
    obtain ⟨q, rfl⟩ : ∃ n, q = n + 1 := ⟨q - 1, by omega⟩
    have h := ih (p ++ [x]) q n (by simp at hq; omega) (by simpa using hn) hl
    have hn' : n = p.length + (r.length + 1) := by simpa using hn
    subst hn'
    simp at h
    have hx := ixa_mid eI6 (sz := 1) rfl .i64 p x r
    have hw := wrap_next (n := p.length) (by omega)
    simp +contextual -implicitDefEqProofs [L_impl_first, retK_eq, cutK_eq, hx, hw, h, firstV]
    split <;> rfl
theorem s_impl_firstV (l : List Int) (hl : l.length < 1000000000) : X_impl_first [frS eI6 l] [] = some (.int .i64 (firstV l), []) := by
  have h := l_impl_first l [] QQ l.length (by unfold QQ; omega) rfl hl
  simp at h
  simp +contextual -implicitDefEqProofs [X_impl_first, retK_eq, cutK_eq, h]
@[simp] theorem fz_three (k : Nat) (m : Mem) (a b c : Int) : fzO (k + 1) m (some ⟨[.int .i64 a, .int .i64 b, .int .i64 c], 1, true, true⟩) 0 3 = some (frS eI6 [a, b, c]) := fzO_own eI6 k m [a, b, c]
theorem s_impl_first3 (a b c : Int) : X_impl_first [frS eI6 [a, b, c]] [] = some (.int .i64 (if a = 0 then (if b = 0 then c else b) else a), []) := by
  rw [s_impl_firstV [a, b, c] (by simp)]
  simp only [firstV]
  by_cases h1 : a = 0 <;> by_cases h2 : b = 0 <;> by_cases h3 : c = 0 <;> simp [h1, h2, h3]

structure VtT where
  d : DecT
  p : ParT
  s : ScrT
abbrev vtT (v : VtT) (x a b c d : Value) (rest : List Value) : List Value := .int .i64 v.d.l :: .int .i64 v.d.o :: .int .i64 v.d.v :: .int .i64 v.p.k :: .int .i64 v.p.s :: .bool v.p.lead :: x :: scrT v.s a b c d rest
abbrev vtL (v : VtT) (x a b c d : Value) : List Value := vtT v x a b c d []
abbrev vtV (v : VtT) : Value := .agg (vtL v (frS eI6 v.p.ns) (frS eC v.s.g.cs) (frS eC v.s.g.bk) (frS eB v.s.tabs) (frS eI6 v.s.sets)).toArray
abbrev vtP (v : VtT) (rest : List Value) : Value := roP (vtT v (frS eI6 v.p.ns) (frS eC v.s.g.cs) (frS eC v.s.g.bk) (frS eB v.s.tabs) (frS eI6 v.s.sets) rest)
abbrev vtO (v : VtT) (x a b c d : Nat) : Value := .agg (vtL v (slO x v.p.ns.length) (slO a v.s.g.cs.length) (slO b v.s.g.bk.length) (slO c v.s.tabs.length) (slO d v.s.sets.length)).toArray
def VtT.small (v : VtT) : Prop := v.p.ns.length < 1000000000 ∧ v.s.small
def VtT.fit (v : VtT) : Prop := v.p.ns.length ≤ 9223372036854775807 ∧ v.s.fit

theorem s_toDecoder (d : DecT) : X_laws_toDecoder [decV d] [] = some (decV d, []) := by
  simp +contextual -implicitDefEqProofs [X_laws_toDecoder, retK_eq]
theorem s_toParser (p : ParT) (hp : p.ns.length < 1000000000) : X_laws_toParser [parV p] [] = some (parO p 0, [ownB eI6 p.ns]) := by
  have h := s_toInt64S p.ns hp
  simp +contextual -implicitDefEqProofs [X_laws_toParser, retK_eq, h]
theorem s_toVt (v : VtT) (hv : v.small) : X_laws_toVt [vtV v] [] = some (vtO v 0 1 2 3 4, [ownB eI6 v.p.ns, ownB eC v.s.g.cs, ownB eC v.s.g.bk, ownB eB v.s.tabs, ownB eI6 v.s.sets]) := by
  have h1 := s_toDecoder v.d
  have h2 := s_toParser v.p hv.1
  have h3 := s_toScreen v.s hv.2
  simp (maxSteps := 2000000) +contextual -implicitDefEqProofs [X_laws_toVt, retK_eq, h1, h2, h3]
theorem s_eqDecoder (d : DecT) : X_laws_eqDecoder [decV d, decV d] [] = some (.bool true, []) := by
  simp +contextual -implicitDefEqProofs [X_laws_eqDecoder, retK_eq]
theorem s_eqParser (p : ParT) (hp : p.ns.length < 1000000000) : X_laws_eqParser [parV p, parV p] [] = some (.bool true, []) := by
  have h := s_eqInt64S p.ns hp
  simp +contextual -implicitDefEqProofs [X_laws_eqParser, retK_eq, h]
theorem s_eqVt (v : VtT) (hv : v.small) : X_laws_eqVt [vtV v, vtV v] [] = some (.bool true, []) := by
  have h1 := s_eqDecoder v.d
  have h2 := s_eqParser v.p hv.1
  have h3 := s_eqScreen v.s hv.2
  simp (maxSteps := 2000000) +contextual -implicitDefEqProofs [X_laws_eqVt, retK_eq, h1, h2, h3]
def szP (p : ParT) (left : Int) : Int := szN p.ns.length left
theorem s_szParser (p : ParT) (left : Int) (hp : p.ns.length ≤ 9223372036854775807) (h0 : 0 ≤ left) (h1 : left ≤ 1048576) : X_laws_szParser [parV p, .int .i64 left] [] = some (.int .i64 (szP p left), []) := by
  have c1 := s_szInt64S p.ns left hp h0 h1
  have : szN p.ns.length left < 0 → szN p.ns.length left = -1 := by unfold szN; split <;> omega
  by_cases h : szN p.ns.length left < 0 <;> simp +contextual -implicitDefEqProofs [X_laws_szParser, retK_eq, c1, h, szP, this]
def VtT.szl (v : VtT) (left : Int) : Int := if szP v.p left < 0 then -1 else if v.s.szl (szP v.p left) < 0 then -1 else v.s.szl (szP v.p left)
theorem s_szVt (v : VtT) (left : Int) (hv : v.fit) (h0 : 0 ≤ left) (h1 : left ≤ 1048576) : X_laws_szVt [vtV v, .int .i64 left] [] = some (.int .i64 (v.szl left), []) := by
  have c1 := s_szParser v.p left hv.1 h0 h1
  by_cases h : szP v.p left < 0
  · simp (maxSteps := 2000000) +contextual -implicitDefEqProofs [X_laws_szVt, retK_eq, c1, h, VtT.szl]
  · have c2 := s_szScreen v.s (szP v.p left) hv.2 (by omega) (szN_le h1)
    by_cases h2 : v.s.szl (szP v.p left) < 0 <;> simp (maxSteps := 2000000) +contextual -implicitDefEqProofs [X_laws_szVt, retK_eq, c1, c2, h, h2, VtT.szl]
theorem szv_small {v : VtT} {x : Int} (hx : x ≤ 1048576) (h : ¬ v.szl x < 0) : v.small := by
  unfold VtT.szl at h
  split at h
  · omega
  · rename_i h1
    split at h
    · omega
    · rename_i h2
      exact ⟨szN_small (x := x) hx (by unfold szP at h1; omega), szs_small (x := szP v.p x) (szN_le hx) h2⟩
def faultV (v : VtT) : Int := if decF v.d = 0 then (if parF v.p = 0 then faultS v.s else parF v.p) else decF v.d
theorem s_spec_l6Fault (v : VtT) (hv : v.small) (rest : List Value) : X_spec_l6Fault [vtP v rest] [] = some (.int .i64 (faultV v), []) := by
  have c1 := fun rest => s_spec_l1Fault v.d rest
  have c2 := fun rest => s_spec_l4Fault v.p hv.1 rest
  have c3 := s_spec_l5Fault v.s hv.2
  by_cases h1 : decF v.d = 0 <;> by_cases h2 : parF v.p = 0 <;> simp (maxSteps := 2000000) +contextual -implicitDefEqProofs [X_spec_l6Fault, retK_eq, c1, c2, c3, h1, h2, faultV]
theorem s_impl_VtFault (v : VtT) (hv : v.small) : X_impl_VtFault [vtV v] [] = some (.int .i64 (faultV v), []) := by
  have c1 := s_impl_DecoderFault v.d
  have c2 := s_impl_ParserFault v.p hv.1
  have c3 := s_impl_ScreenFault v.s hv.2
  have c4 := s_impl_first3
  by_cases h1 : decF v.d = 0 <;> by_cases h2 : parF v.p = 0 <;> simp (maxSteps := 2000000) +contextual -implicitDefEqProofs [X_impl_VtFault, retK_eq, c1, c2, c3, c4, h1, h2, faultV]
end Go.Ab
