/- What the functions of the program answer, for all arguments that the theorems name as conditions. -/
import Derived.Test.YtiepalcnkcjphaaS16Ma
import Derived.Test.YtiepalcnkcjphaaVtw
import Derived.Test.YtiepalcnkcjphaaFB
set_option linter.unusedVariables false
set_option linter.unusedSimpArgs false
namespace Go.Ab
set_option maxHeartbeats 4000000
def dcOK (d : DecT) : Bool := if d.l = 0 then decide (d.o = 0) && decide (d.v = 0) else if d.l = 2 then decide (d.o = 2048) && inB d.v 0 15 else if d.l = 1 then (if d.o = 128 then inB d.v 2 31 else if d.o = 2048 then inB d.v 0 1023 else false) else false
def decF (d : DecT) : Int := if dcOK d = true then 0 else 3
theorem s_spec_l1Fault (d : DecT) (rest : List Value) : X_spec_l1Fault [decP d rest] [] = some (.int .i64 (decF d), []) := by
  obtain ⟨l, o, v⟩ := d
  have hl : l = 0 ∨ l = 1 ∨ l = 2 ∨ (l ≠ 0 ∧ l ≠ 1 ∧ l ≠ 2) := by omega
  have ho : o = 0 ∨ o = 128 ∨ o = 2048 ∨ (o ≠ 0 ∧ o ≠ 128 ∧ o ≠ 2048) := by omega
  rcases hl with rfl | rfl | rfl | ⟨h1, h2, h3⟩ <;> rcases ho with rfl | rfl | rfl | ⟨o1, o2, o3⟩ <;> rcases Classical.propComplete (v = 0) with hv | hv <;> cases i1 : inB v 0 15 <;> cases i2 : inB v 2 31 <;> cases i3 : inB v 0 1023 <;>
    simp -implicitDefEqProofs [X_spec_l1Fault, retK_eq, s_spec_l1In, decF, dcOK, *]
theorem s_impl_DecoderFault (d : DecT) : X_impl_DecoderFault [decV d] [] = some (.int .i64 (decF d), []) := by
  obtain ⟨l, o, v⟩ := d
  have hl : l = 0 ∨ l = 1 ∨ l = 2 ∨ (l ≠ 0 ∧ l ≠ 1 ∧ l ≠ 2) := by omega
  have ho : o = 0 ∨ o = 128 ∨ o = 2048 ∨ (o ≠ 0 ∧ o ≠ 128 ∧ o ≠ 2048) := by omega
  rcases hl with rfl | rfl | rfl | ⟨h1, h2, h3⟩ <;> rcases ho with rfl | rfl | rfl | ⟨o1, o2, o3⟩ <;> rcases Classical.propComplete (v = 0) with hv | hv <;> cases i1 : inB v 0 15 <;> cases i2 : inB v 2 31 <;> cases i3 : inB v 0 1023 <;>
    simp -implicitDefEqProofs [X_impl_DecoderFault, retK_eq, s_impl_in, decF, dcOK, eqFX_cons, *]
def allP (l : List Int) : Bool := l.all fun x => inB x 0 999
theorem allP_cons (x : Int) (l : List Int) : allP (x :: l) = (inB x 0 999 && allP l) := rfl
def prmF (l : List Int) : Int := if inB l.length 1 6 = true then (if allP l = true then 0 else 3) else 2
theorem l_spec_l4Params (r : List Int) : ∀ (p : List Int) (q : Nat), r.length < q → (p ++ r).length < 1000000000 → L_spec_l4Params 0 q 0 [frS eI6 (p ++ r), .int .i64 p.length] [] = some (.int .i64 (if allP r = true then 0 else 3), []) := by
  induction r with
  | nil =>
    intro p q hq hl
    obtain ⟨q, rfl⟩ : ∃ n, q = n + 1 := ⟨q - 1, by omega⟩
    simp +contextual -implicitDefEqProofs [L_spec_l4Params, retK_eq, allP]
  | cons x r ih =>
    intro p q hq hl
    obtain ⟨q, rfl⟩ : ∃ n, q = n + 1 := ⟨q - 1, by omega⟩
    have h := ih (p ++ [x]) q (by simp at hq; omega) (by simpa using hl)
    simp at h
    have hx := ixa_mid eI6 (sz := 1) rfl .i64 p x r
    have hw := wrap_next (n := p.length) (by simp at hl; omega)
    simp +contextual -implicitDefEqProofs [L_spec_l4Params, retK_eq, cutK_eq, hx, hw, s_spec_l1In, allP_cons, h]
    cases inB x 0 999 <;> simp
theorem s_spec_l4Params (l : List Int) (hl : l.length < 1000000000) : X_spec_l4Params [frS eI6 l] [] = some (.int .i64 (prmF l), []) := by
  have h := l_spec_l4Params l [] QQ (by unfold QQ; omega) (by simpa using hl)
  simp at h
  by_cases h1 : (l.length : Int) < 1
  · have : inB l.length 1 6 = false := by simp [inB]; omega
    simp -implicitDefEqProofs [X_spec_l4Params, retK_eq, cutK_eq, h, h1, prmF, this]
  · by_cases h2 : 6 < (l.length : Int)
    · have : inB l.length 1 6 = false := by simp [inB]; omega
      simp -implicitDefEqProofs [X_spec_l4Params, retK_eq, cutK_eq, h, h1, h2, prmF, this]
    · have : inB l.length 1 6 = true := by simp [inB]; omega
      simp -implicitDefEqProofs [X_spec_l4Params, retK_eq, cutK_eq, h, h1, h2, prmF, this]
theorem s_impl_paramsCode_1 (x : Int) : X_impl_paramsCode_1 [.int .i64 x] [] = some (.bool (!inB x 0 999), []) := by
  simp +contextual -implicitDefEqProofs [X_impl_paramsCode_1, retK_eq, s_impl_in]
theorem l_IndexFuncP (r : List Int) : ∀ (p : List Int) (q : Nat), r.length < q → (p ++ r).length < 1000000000 → ∃ n : Int, (allP r = true → n = -1) ∧ (allP r = false → 0 ≤ n) ∧ L_slices_IndexFunc_int64_int64 0 q 0 [frS eI6 (p ++ r), .func (.func 69) #[] #[], .int .i64 (p ++ r).length, .int .i64 p.length] [] = some (.int .i64 n, []) := by
  induction r with
  | nil =>
    intro p q hq hl
    obtain ⟨q, rfl⟩ : ∃ n, q = n + 1 := ⟨q - 1, by omega⟩
    refine ⟨-1, by simp, by simp [allP], ?_⟩
    simp +contextual -implicitDefEqProofs [L_slices_IndexFunc_int64_int64, retK_eq]
  | cons x r ih =>
    intro p q hq hl
    obtain ⟨q, rfl⟩ : ∃ n, q = n + 1 := ⟨q - 1, by omega⟩
    obtain ⟨n, h1, h2, h⟩ := ih (p ++ [x]) q (by simp at hq; omega) (by simpa using hl)
    simp at h
    have hx := ixa_mid eI6 (sz := 1) rfl .i64 p x r
    have hw := wrap_next (n := p.length) (by simp at hl; omega)
    refine ⟨if inB x 0 999 = true then n else p.length, ?_, ?_, ?_⟩
    · simp only [allP_cons, Bool.and_eq_true]
      rintro ⟨h3, h4⟩
      simp [h3, h1 h4]
    · cases hx : inB x 0 999
      · simp
      · simp [allP_cons, hx]
        exact h2
    · simp +contextual -implicitDefEqProofs [L_slices_IndexFunc_int64_int64, cf_slices_IndexFunc_int64_int64, retK_eq, cutK_eq, hx, hw, h, s_impl_paramsCode_1]
      cases inB x 0 999 <;> simp
theorem s_ContainsFuncP (l : List Int) (hl : l.length < 1000000000) : X_slices_ContainsFunc_int64_int64 [frS eI6 l, .func (.func 69) #[] #[]] [] = some (.bool (!allP l), []) := by
  obtain ⟨n, h1, h2, h⟩ := l_IndexFuncP l [] QQ (by unfold QQ; omega) (by simpa using hl)
  simp at h
  simp +contextual -implicitDefEqProofs [X_slices_ContainsFunc_int64_int64, X_slices_IndexFunc_int64_int64, cutK_eq, retK_eq, h]
  cases ha : allP l
  · simp [h2 ha]
  · simp [h1 ha]
theorem s_impl_paramsCode (l : List Int) (hl : l.length < 1000000000) : X_impl_paramsCode [frS eI6 l] [] = some (.int .i64 (prmF l), []) := by
  have h := s_ContainsFuncP l hl
  cases h1 : inB l.length 1 6 <;> cases h2 : allP l <;> simp -implicitDefEqProofs [X_impl_paramsCode, retK_eq, cutK_eq, s_impl_in, h, h1, h2, prmF, s_impl_unless, unl]
def emP (p : ParT) : Bool := decide (p.ns.length = 0) && !p.lead
def parF (p : ParT) : Int := if p.k = 2 then (if p.s = 0 then prmF p.ns else 1) else if p.k = 3 then (if emP p = true then (if inB p.s 1 2 = true then 0 else 3) else 1) else if p.k = 0 ∨ p.k = 1 then (if emP p = true ∧ p.s = 0 then 0 else 1) else 1
theorem s_spec_l4Fault (p : ParT) (hl : p.ns.length < 1000000000) (rest : List Value) : X_spec_l4Fault [parP p rest] [] = some (.int .i64 (parF p), []) := by
  obtain ⟨k, s, lead, ns⟩ := p
  have hk : k = 0 ∨ k = 1 ∨ k = 2 ∨ k = 3 ∨ (k ≠ 0 ∧ k ≠ 1 ∧ k ≠ 2 ∧ k ≠ 3) := by omega
  have hp := s_spec_l4Params ns hl
  have hp0 := s_spec_l4Params [] (by simp)
  have i0 : inB 0 0 3 = true := by decide
  have i1 : inB 1 0 3 = true := by decide
  have i2 : inB 2 0 3 = true := by decide
  have i3 : inB 3 0 3 = true := by decide
  have hn : ns = [] ∨ (ns ≠ [] ∧ 0 < ns.length) := by
    cases ns with
    | nil => exact .inl rfl
    | cons a b => exact .inr ⟨by simp, by simp⟩
  have i4 : (k ≠ 0 ∧ k ≠ 1 ∧ k ≠ 2 ∧ k ≠ 3) → inB k 0 3 = false := by intro h; simp [inB]; omega
  rcases hk with rfl | rfl | rfl | rfl | hk
  rotate_left 4
  · have i4 := i4 hk
    obtain ⟨k0, k1, k2, k3⟩ := hk
    simp -implicitDefEqProofs [X_spec_l4Fault, retK_eq, s_spec_l1In, parF, *]
  all_goals try (rcases hn with hn | ⟨hn, hn2⟩ <;> rcases Classical.propComplete (s = 0) with hs | hs <;> cases lead <;> cases i12 : inB s 1 2 <;> simp -implicitDefEqProofs [X_spec_l4Fault, retK_eq, s_spec_l1In, hp, parF, emP, *])
theorem s_impl_isSet (x : Int) : X_impl_isSet [.int .i64 x] [] = some (.bool (inB x 1 2), []) := by
  simp +contextual -implicitDefEqProofs [X_impl_isSet, retK_eq, s_impl_in]
theorem s_impl_ParserFault (p : ParT) (hl : p.ns.length < 1000000000) : X_impl_ParserFault [parV p] [] = some (.int .i64 (parF p), []) := by
  obtain ⟨k, s, lead, ns⟩ := p
  have hk : k = 0 ∨ k = 1 ∨ k = 2 ∨ k = 3 ∨ (k ≠ 0 ∧ k ≠ 1 ∧ k ≠ 2 ∧ k ≠ 3) := by omega
  have hp := s_impl_paramsCode ns hl
  have hp0 := s_impl_paramsCode [] (by simp)
  have hn : ns = [] ∨ (ns ≠ [] ∧ 0 < ns.length) := by
    cases ns with
    | nil => exact .inl rfl
    | cons a b => exact .inr ⟨by simp, by simp⟩
  rcases hk with rfl | rfl | rfl | rfl | ⟨k0, k1, k2, k3⟩
  all_goals try (rcases hn with hn | ⟨hn, hn2⟩ <;> rcases Classical.propComplete (s = 0) with hs | hs <;> cases lead <;> cases i12 : inB s 1 2 <;> simp -implicitDefEqProofs [X_impl_ParserFault, retK_eq, s_impl_in, s_impl_unless, s_impl_first, s_impl_isSet, unl, hp, parF, emP, *])
end Go.Ab
namespace Go.Ab
set_option maxHeartbeats 4000000
structure VtT where
  d : DecT
  p : ParT
  s : ScrT
abbrev vtT (v : VtT) (x a b c d : Value) (rest : List Value) : List Value := .int .i64 v.d.l :: .int .i64 v.d.o :: .int .i64 v.d.v :: .int .i64 v.p.k :: .int .i64 v.p.s :: .bool v.p.lead :: x :: scrT v.s a b c d rest
abbrev vtL (v : VtT) (x a b c d : Value) : List Value := vtT v x a b c d []
abbrev vtV (v : VtT) : Value := .agg (vtL v (frS eI6 v.p.ns) (frS eC v.s.g.cs) (frS eC v.s.g.bk) (frS eB v.s.tabs) (frS eI6 v.s.sets)).toArray
abbrev vtP (v : VtT) (rest : List Value) : Value := roP (vtT v (frS eI6 v.p.ns) (frS eC v.s.g.cs) (frS eC v.s.g.bk) (frS eB v.s.tabs) (frS eI6 v.s.sets) rest)
abbrev vtO (v : VtT) (x a b c d : Nat) : Value := .agg (vtL v (slO x v.p.ns.length) (slO a v.s.g.cs.length) (slO b v.s.g.bk.length) (slO c v.s.tabs.length) (slO d v.s.sets.length)).toArray
def VtT.small (v : VtT) : Prop := v.p.ns.length < 1000000000 ∧ v.s.small
def VtT.fit (v : VtT) : Prop := v.p.ns.length ≤ 9223372036854775807 ∧ v.s.fit
theorem s_toDecoder (d : DecT) : X_laws_toDecoder [decV d] [] = some (decV d, []) := by
  simp +contextual -implicitDefEqProofs [X_laws_toDecoder, retK_eq]
theorem s_toParser (p : ParT) (hp : p.ns.length < 1000000000) : X_laws_toParser [parV p] [] = some (parO p 0, [ownB eI6 p.ns]) := by
  have h := s_toInt64S p.ns hp
  simp +contextual -implicitDefEqProofs [X_laws_toParser, retK_eq, h]
theorem s_toVt (v : VtT) (hv : v.small) : X_laws_toVt [vtV v] [] = some (vtO v 0 1 2 3 4, [ownB eI6 v.p.ns, ownB eC v.s.g.cs, ownB eC v.s.g.bk, ownB eB v.s.tabs, ownB eI6 v.s.sets]) := by
  have h1 := s_toDecoder v.d
  have h2 := s_toParser v.p hv.1
  have h3 := s_toScreen v.s hv.2
  simp (maxSteps := 2000000) +contextual -implicitDefEqProofs [X_laws_toVt, retK_eq, h1, h2, h3]
theorem s_eqDecoder (d : DecT) : X_laws_eqDecoder [decV d, decV d] [] = some (.bool true, []) := by
  simp +contextual -implicitDefEqProofs [X_laws_eqDecoder, retK_eq]
theorem s_eqParser (p : ParT) (hp : p.ns.length < 1000000000) : X_laws_eqParser [parV p, parV p] [] = some (.bool true, []) := by
  have h := s_eqInt64S p.ns hp
  simp +contextual -implicitDefEqProofs [X_laws_eqParser, retK_eq, h]
theorem s_eqVt (v : VtT) (hv : v.small) : X_laws_eqVt [vtV v, vtV v] [] = some (.bool true, []) := by
  have h1 := s_eqDecoder v.d
  have h2 := s_eqParser v.p hv.1
  have h3 := s_eqScreen v.s hv.2
  simp (maxSteps := 2000000) +contextual -implicitDefEqProofs [X_laws_eqVt, retK_eq, h1, h2, h3]
def szP (p : ParT) (left : Int) : Int := szN p.ns.length left
theorem s_szParser (p : ParT) (left : Int) (hp : p.ns.length ≤ 9223372036854775807) (h0 : 0 ≤ left) (h1 : left ≤ 1048576) : X_laws_szParser [parV p, .int .i64 left] [] = some (.int .i64 (szP p left), []) := by
  have c1 := s_szInt64S p.ns left hp h0 h1
  have : szN p.ns.length left < 0 → szN p.ns.length left = -1 := by unfold szN; split <;> omega
  by_cases h : szN p.ns.length left < 0 <;> simp +contextual -implicitDefEqProofs [X_laws_szParser, retK_eq, c1, h, szP, this]
def VtT.szl (v : VtT) (left : Int) : Int := if szP v.p left < 0 then -1 else if v.s.szl (szP v.p left) < 0 then -1 else v.s.szl (szP v.p left)
theorem s_szVt (v : VtT) (left : Int) (hv : v.fit) (h0 : 0 ≤ left) (h1 : left ≤ 1048576) : X_laws_szVt [vtV v, .int .i64 left] [] = some (.int .i64 (v.szl left), []) := by
  have c1 := s_szParser v.p left hv.1 h0 h1
  by_cases h : szP v.p left < 0
  · simp (maxSteps := 2000000) +contextual -implicitDefEqProofs [X_laws_szVt, retK_eq, c1, h, VtT.szl]
  · have c2 := s_szScreen v.s (szP v.p left) hv.2 (by omega) (szN_le h1)
    by_cases h2 : v.s.szl (szP v.p left) < 0 <;> simp (maxSteps := 2000000) +contextual -implicitDefEqProofs [X_laws_szVt, retK_eq, c1, c2, h, h2, VtT.szl]
theorem szv_small {v : VtT} {x : Int} (hx : x ≤ 1048576) (h : ¬ v.szl x < 0) : v.small := by
  unfold VtT.szl at h
  split at h
  · omega
  · rename_i h1
    split at h
    · omega
    · rename_i h2
      exact ⟨szN_small (x := x) hx (by unfold szP at h1; omega), szs_small (x := szP v.p x) (szN_le hx) h2⟩
end Go.Ab
namespace Go.Ab
set_option maxHeartbeats 4000000
def firstV : List Int → Int
  | [] => 0
  | x :: r => if x = 0 then firstV r else x
theorem l_impl_first (r : List Int) : ∀ (p : List Int) (q n : Nat), r.length < q → n = (p ++ r).length → n < 1000000000 → L_impl_first 0 q 0 [frS eI6 (p ++ r), .int .i64 n, .int .i64 p.length] [] = some (.int .i64 (firstV r), []) := by
  induction r with
  | nil =>
    intro p q n hq hn hl
    obtain ⟨q, rfl⟩ : ∃ n, q = n + 1 := ⟨q - 1, by omega⟩
    subst hn
    simp +contextual -implicitDefEqProofs [L_impl_first, retK_eq, firstV]
  | cons x r ih =>
    intro p q n hq hn hl
    obtain ⟨q, rfl⟩ : ∃ n, q = n + 1 := ⟨q - 1, by omega⟩
    have h := ih (p ++ [x]) q n (by simp at hq; omega) (by simpa using hn) hl
    have hn' : n = p.length + (r.length + 1) := by simpa using hn
    subst hn'
    simp at h
    have hx := ixa_mid eI6 (sz := 1) rfl .i64 p x r
    have hw := wrap_next (n := p.length) (by omega)
    simp +contextual -implicitDefEqProofs [L_impl_first, retK_eq, cutK_eq, hx, hw, h, firstV]
    split <;> rfl
theorem s_impl_firstV (l : List Int) (hl : l.length < 1000000000) : X_impl_first [frS eI6 l] [] = some (.int .i64 (firstV l), []) := by
  have h := l_impl_first l [] QQ l.length (by unfold QQ; omega) rfl hl
  simp at h
  simp +contextual -implicitDefEqProofs [X_impl_first, retK_eq, cutK_eq, h]
@[simp] theorem fz_three (k : Nat) (m : Mem) (a b c : Int) : fzO (k + 1) m (some ⟨[.int .i64 a, .int .i64 b, .int .i64 c], 1, true, true⟩) 0 3 = some (frS eI6 [a, b, c]) := fzO_own eI6 k m [a, b, c]
theorem s_impl_first3 (a b c : Int) : X_impl_first [frS eI6 [a, b, c]] [] = some (.int .i64 (if a = 0 then (if b = 0 then c else b) else a), []) := by
  rw [s_impl_firstV [a, b, c] (by simp)]
  simp only [firstV]
  by_cases h1 : a = 0 <;> by_cases h2 : b = 0 <;> by_cases h3 : c = 0 <;> simp [h1, h2, h3]
def faultV (v : VtT) : Int := if decF v.d = 0 then (if parF v.p = 0 then faultS v.s else parF v.p) else decF v.d
theorem s_spec_l6Fault (v : VtT) (hv : v.small) (rest : List Value) : X_spec_l6Fault [vtP v rest] [] = some (.int .i64 (faultV v), []) := by
  have c1 := fun rest => s_spec_l1Fault v.d rest
  have c2 := fun rest => s_spec_l4Fault v.p hv.1 rest
  have c3 := s_spec_l5Fault v.s hv.2
  by_cases h1 : decF v.d = 0 <;> by_cases h2 : parF v.p = 0 <;> simp (maxSteps := 2000000) +contextual -implicitDefEqProofs [X_spec_l6Fault, retK_eq, c1, c2, c3, h1, h2, faultV]
theorem s_impl_VtFault (v : VtT) (hv : v.small) : X_impl_VtFault [vtV v] [] = some (.int .i64 (faultV v), []) := by
  have c1 := s_impl_DecoderFault v.d
  have c2 := s_impl_ParserFault v.p hv.1
  have c3 := s_impl_ScreenFault v.s hv.2
  have c4 := s_impl_first3
  by_cases h1 : decF v.d = 0 <;> by_cases h2 : parF v.p = 0 <;> simp (maxSteps := 2000000) +contextual -implicitDefEqProofs [X_impl_VtFault, retK_eq, c1, c2, c3, c4, h1, h2, faultV]
end Go.Ab
namespace Go.Ab
set_option maxHeartbeats 4000000
abbrev eU8 : Enc Int := eI .u8
def encB (x : Int) : List Int := if x < 128 then [x] else if x < 2048 then [192 + x / 64, 128 + x % 64] else [224 + x / 4096, 128 + x / 64 % 64, 128 + x % 64]
theorem encB_len (x : Int) : (encB x).length ≤ 3 := by unfold encB; split; simp; split <;> simp
theorem s_spec_l1Encode (x : Int) (h0 : 0 ≤ x) (h1 : x ≤ 65535) : X_spec_l1Encode [.int .i64 x] [] = some (slO 0 (encB x).length, [ownB eU8 (encB x)]) := by
  have e1 : x.tdiv 64 = x / 64 := Int.tdiv_eq_ediv_of_nonneg h0
  have e2 : x.tdiv 4096 = x / 4096 := Int.tdiv_eq_ediv_of_nonneg h0
  have e3 : x.tmod 64 = x % 64 := Int.tmod_eq_emod_of_nonneg h0
  have e4 : (x / 64).tmod 64 = x / 64 % 64 := Int.tmod_eq_emod_of_nonneg (by omega)
  have w1 : IntKind.i64.wrap (x / 64) = x / 64 := wrap_i64 (by omega) (by omega)
  have w2 : IntKind.i64.wrap (x / 4096) = x / 4096 := wrap_i64 (by omega) (by omega)
  have w3 : IntKind.i64.wrap (192 + x / 64) = 192 + x / 64 := wrap_i64 (by omega) (by omega)
  have w4 : IntKind.i64.wrap (128 + x % 64) = 128 + x % 64 := wrap_i64 (by omega) (by omega)
  have w5 : IntKind.i64.wrap (224 + x / 4096) = 224 + x / 4096 := wrap_i64 (by omega) (by omega)
  have w6 : IntKind.i64.wrap (128 + x / 64 % 64) = 128 + x / 64 % 64 := wrap_i64 (by omega) (by omega)
  have u4 : IntKind.u8.wrap (128 + x % 64) = 128 + x % 64 := wrap_u8' (by omega) (by omega)
  have u6 : IntKind.u8.wrap (128 + x / 64 % 64) = 128 + x / 64 % 64 := wrap_u8' (by omega) (by omega)
  by_cases c1 : x < 128
  · have u1 : IntKind.u8.wrap x = x := wrap_u8' (by omega) (by omega)
    simp -implicitDefEqProofs [X_spec_l1Encode, retK_eq, encB, c1, u1]
    rfl
  · by_cases c2 : x < 2048
    · have u2 : IntKind.u8.wrap (192 + x / 64) = 192 + x / 64 := wrap_u8' (by omega) (by omega)
      simp -implicitDefEqProofs [X_spec_l1Encode, retK_eq, encB, c1, c2, e1, e3, w1, w3, w4, u2, u4]
      rfl
    · have u3 : IntKind.u8.wrap (224 + x / 4096) = 224 + x / 4096 := wrap_u8' (by omega) (by omega)
      simp -implicitDefEqProofs [X_spec_l1Encode, retK_eq, encB, c1, c2, e1, e2, e3, e4, w1, w2, w4, w5, w6, u3, u4, u6]
      rfl
theorem s_impl_encode (x : Int) (h0 : 0 ≤ x) (h1 : x ≤ 65535) : X_impl_encode [.int .i64 x] [] = some (slO 0 (encB x).length, [ownB eU8 (encB x)]) := by
  have e1 := shr_div (a := x) 6 (by omega)
  have e2 := shr_div (a := x) 12 (by omega)
  have e3 := and_mask (a := x) 6 h0 (by omega) (by omega)
  have e4 := and_mask (a := x / 64) 6 (by omega) (by omega) (by omega)
  simp only [Nat.reducePow, Nat.reduceSub, Int.cast_ofNat_Int] at e1 e2 e3 e4
  have w3 : IntKind.i64.wrap (192 + x / 64) = 192 + x / 64 := wrap_i64 (by omega) (by omega)
  have w4 : IntKind.i64.wrap (128 + x % 64) = 128 + x % 64 := wrap_i64 (by omega) (by omega)
  have w5 : IntKind.i64.wrap (224 + x / 4096) = 224 + x / 4096 := wrap_i64 (by omega) (by omega)
  have w6 : IntKind.i64.wrap (128 + x / 64 % 64) = 128 + x / 64 % 64 := wrap_i64 (by omega) (by omega)
  have u4 : IntKind.u8.wrap (128 + x % 64) = 128 + x % 64 := wrap_u8' (by omega) (by omega)
  have u6 : IntKind.u8.wrap (128 + x / 64 % 64) = 128 + x / 64 % 64 := wrap_u8' (by omega) (by omega)
  by_cases c1 : x < 128
  · have u1 : IntKind.u8.wrap x = x := wrap_u8' (by omega) (by omega)
    simp -implicitDefEqProofs [X_impl_encode, retK_eq, encB, c1, u1]
    rfl
  · by_cases c2 : x < 2048
    · have u2 : IntKind.u8.wrap (192 + x / 64) = 192 + x / 64 := wrap_u8' (by omega) (by omega)
      simp -implicitDefEqProofs [X_impl_encode, retK_eq, encB, c1, c2, e1, e3, w3, w4, u2, u4]
      rfl
    · have u3 : IntKind.u8.wrap (224 + x / 4096) = 224 + x / 4096 := wrap_u8' (by omega) (by omega)
      simp -implicitDefEqProofs [X_impl_encode, retK_eq, encB, c1, c2, e1, e2, e3, e4, w4, w5, w6, u3, u4, u6]
      rfl
def rowL (g : GridT) (i : Int) : List CellT := (g.cs.drop (i * g.w).toNat).take (((i + 1) * g.w).toNat - (i * g.w).toNat)
theorem row_facts {g : GridT} {i : Int} (hf : faultG g = 0) (h0 : 0 ≤ i) (h1 : i ≤ g.r - 1) : IntKind.i64.wrap (i * g.w) = i * g.w ∧ IntKind.i64.wrap (i + 1) = i + 1 ∧ IntKind.i64.wrap ((i + 1) * g.w) = (i + 1) * g.w ∧ 0 ≤ i * g.w ∧ i * g.w ≤ (i + 1) * g.w ∧ (i + 1) * g.w ≤ g.cs.length ∧ g.cs.length ≤ 72 ∧ (rowL g i).length ≤ 72 ∧ ∀ x ∈ rowL g i, 0 ≤ x.c ∧ x.c ≤ 65535 := by
  have hs := szB_of hf
  have hb := szB_b hs
  have hl : (g.cs.length : Int) = g.r * g.w ∧ allC g.cs = true := by
    unfold faultG at hf
    rw [if_pos hs] at hf
    split at hf
    · rename_i hh
      split at hf
      · rename_i h3
        unfold formG at hh
        simp at hh h3
        exact ⟨hh.1, h3.1⟩
      · cases hf
    · cases hf
  have m1 := mul_le (r := i) (w := g.w) (a := 6) (b := 12) h0 (by omega) (by omega) (by omega)
  have m2 := mul_le (r := i + 1) (w := g.w) (a := 6) (b := 12) (by omega) (by omega) (by omega) (by omega)
  have m3 : i * g.w ≤ (i + 1) * g.w := Int.mul_le_mul_of_nonneg_right (by omega) (by omega)
  have m4 : (i + 1) * g.w ≤ g.r * g.w := Int.mul_le_mul_of_nonneg_right (by omega) (by omega)
  have m5 := mul_le (r := g.r) (w := g.w) (a := 6) (b := 12) (by omega) (by omega) (by omega) (by omega)
  refine ⟨wrap_i64 (by omega) (by omega), wrap_i64 (by omega) (by omega), wrap_i64 (by omega) (by omega), m1.1, m3, by omega, by omega, ?_, ?_⟩
  · unfold rowL
    rw [List.length_take, List.length_drop]
    omega
  · intro x hx
    have hx' : x ∈ g.cs := List.mem_of_mem_drop (List.mem_of_mem_take hx)
    have := List.all_eq_true.mp hl.2 x hx'
    simp [okC, shB', chB, inB] at this
    omega
theorem sl_row {g : GridT} {i : Int} (hf : faultG g = 0) (h0 : 0 ≤ i) (h1 : i ≤ g.r - 1) (m : Mem) : slX m 2 (frS eC g.cs) (some (.int .i64 (i * g.w))) (some (.int .i64 ((i + 1) * g.w))) = some (frS eC (rowL g i)) := by
  obtain ⟨_, _, _, f1, f2, f3, _⟩ := row_facts hf h0 h1
  exact sl_frS eC m (sz := 2) rfl (a := (i * g.w).toNat) (b := ((i + 1) * g.w).toNat) (if_pos f1) (if_pos (by omega)) (by omega) (by omega)
theorem s_spec_l3RowOf {g : GridT} {i : Int} (hf : faultG g = 0) (h0 : 0 ≤ i) (h1 : i ≤ g.r - 1) (rest : List Value) : X_spec_l3RowOf [gridP g rest, .int .i64 i] [] = some (slO 0 (rowL g i).length, [ownB eC (rowL g i)]) := by
  obtain ⟨w1, w2, w3, f1, f2, f3, f4, f5, _⟩ := row_facts hf h0 h1
  have hs := sl_row hf h0 h1
  have hl : (rowL g i).length < 1000000000 := by omega
  have ha := fun m c => apL_frS (E := eC) (m := m) (sz := 2) (bytes := 16) (n := 0) (o := 0) (len := 0) (c := c) (l := rowL g i) rfl (by omega) (by omega)
  simp +contextual -implicitDefEqProofs [X_spec_l3RowOf, retK_eq, w1, w2, w3, hs, hl, ha]
def txtL (l : List CellT) : List Int := l.flatMap fun x => encB x.c
theorem txtL_cons (x : CellT) (l : List CellT) : txtL (x :: l) = encB x.c ++ txtL l := rfl
@[simp] theorem cell_c (p r : List CellT) (x : CellT) : (cellsE eC (p ++ x :: r))[p.length * 2]? = some (.int .i64 x.c) := by
  have := cell_at eC (l := p ++ x :: r) (i := p.length) (o := 0) (by simp) (by decide)
  rw [gt_mid] at this
  exact this
@[simp] theorem cell_a (p r : List CellT) (x : CellT) : (cellsE eC (p ++ x :: r))[p.length * 2 + 1]? = some (.int .i64 x.a) := by
  have := cell_at eC (l := p ++ x :: r) (i := p.length) (o := 1) (by simp) (by decide)
  rw [gt_mid] at this
  exact this
@[simp] theorem cell_c' (p r : List CellT) (x : CellT) (h : p.length * 2 < (cellsE eC (p ++ x :: r)).length) : (cellsE eC (p ++ x :: r))[p.length * 2]'h = .int .i64 x.c := by
  have := cell_c p r x
  rw [List.getElem?_eq_getElem h] at this
  exact Option.some.inj this
@[simp] theorem cell_a' (p r : List CellT) (x : CellT) (h : p.length * 2 + 1 < (cellsE eC (p ++ x :: r)).length) : (cellsE eC (p ++ x :: r))[p.length * 2 + 1]'h = .int .i64 x.a := by
  have := cell_a p r x
  rw [List.getElem?_eq_getElem h] at this
  exact Option.some.inj this
theorem l_spec_l5Text (r : List CellT) : ∀ (p : List CellT) (out : List Int) (q n : Nat), r.length < q → n = (p ++ r).length → n < 1000 → out.length ≤ 3 * p.length → (∀ x ∈ r, 0 ≤ x.c ∧ x.c ≤ 65535) → L_spec_l5Text 0 q 0 [slO 0 out.length, slO 1 n, .int .i64 p.length] [ownB eU8 out, ownB eC (p ++ r)] = some (.string (bstr (out ++ txtL r)), []) := by
  induction r with
  | nil =>
    intro p out q n hq hn hl ho hr
    obtain ⟨q, rfl⟩ : ∃ n, q = n + 1 := ⟨q - 1, by omega⟩
    subst hn
    simp -implicitDefEqProofs [L_spec_l5Text, retK_eq, txtL]
  | cons x r ih =>
    intro p out q n hq hn hl ho hr
    obtain ⟨q, rfl⟩ : ∃ n, q = n + 1 := ⟨q - 1, by omega⟩
    have hx := hr x (by simp)
    have he := encB_len x.c
    have h := ih (p ++ [x]) (out ++ encB x.c) q n (by simp at hq; omega) (by simpa using hn) hl (by simp; omega) (fun y hy => hr y (by simp [hy]))
    simp at h
    have hn' : n = p.length + (r.length + 1) := by simpa using hn
    subst hn'
    have hw := wrap_next (n := p.length) (by omega)
    have c1 := s_spec_l1Encode x.c hx.1 hx.2
    have ha := fun m n o c n2 o2 c2 => apL_sl (m := m) (sz := 1) (bytes := 1) (n := n) (o := o) (len := out.length) (c := c) (n2 := n2) (o2 := o2) (len2 := (encB x.c).length) (c2 := c2) (by omega) (by omega)
    have hb := fun m n cs k => apB_own (E := eU8) (m := m) (l := out) (n := n) (sz := 1) (cs := cs) (k := k) rfl
    simp +contextual -implicitDefEqProofs [L_spec_l5Text, retK_eq, cutK_eq, hw, c1, ha, hb, h, txtL_cons]
theorem l_impl_rowText (r : List CellT) : ∀ (p : List CellT) (out : List Int) (q n : Nat), r.length < q → n = (p ++ r).length → n < 1000 → out.length ≤ 3 * p.length → (∀ x ∈ r, 0 ≤ x.c ∧ x.c ≤ 65535) → L_impl_Screen_rowText 0 q 0 [slO 0 out.length, frS eC (p ++ r), .int .i64 n, .int .i64 p.length] [ownB eU8 out] = some (.string (bstr (out ++ txtL r)), []) := by
  induction r with
  | nil =>
    intro p out q n hq hn hl ho hr
    obtain ⟨q, rfl⟩ : ∃ n, q = n + 1 := ⟨q - 1, by omega⟩
    subst hn
    simp -implicitDefEqProofs [L_impl_Screen_rowText, retK_eq, txtL]
  | cons x r ih =>
    intro p out q n hq hn hl ho hr
    obtain ⟨q, rfl⟩ : ∃ n, q = n + 1 := ⟨q - 1, by omega⟩
    have hx := hr x (by simp)
    have he := encB_len x.c
    have h := ih (p ++ [x]) (out ++ encB x.c) q n (by simp at hq; omega) (by simpa using hn) hl (by simp; omega) (fun y hy => hr y (by simp [hy]))
    simp at h
    have hn' : n = p.length + (r.length + 1) := by simpa using hn
    subst hn'
    simp at h
    have hw := wrap_next (n := p.length) (by omega)
    have hix := ixa_mid eC (sz := 2) rfl .i64 p x r
    have c1 := s_impl_encode x.c hx.1 hx.2
    have ha := fun m n o c n2 o2 c2 => apL_sl (m := m) (sz := 1) (bytes := 1) (n := n) (o := o) (len := out.length) (c := c) (n2 := n2) (o2 := o2) (len2 := (encB x.c).length) (c2 := c2) (by omega) (by omega)
    have hb := fun m n cs k => apB_own (E := eU8) (m := m) (l := out) (n := n) (sz := 1) (cs := cs) (k := k) rfl
    simp +contextual -implicitDefEqProofs [L_impl_Screen_rowText, retK_eq, cutK_eq, hw, hix, c1, ha, hb, h, txtL_cons]
theorem s_spec_l5Text {s : ScrT} {i : Int} (hf : faultG s.g = 0) (h0 : 0 ≤ i) (h1 : i ≤ s.g.r - 1) (rest : List Value) : X_spec_l5Text [scrP s rest, .int .i64 i] [] = some (.string (bstr (txtL (rowL s.g i))), []) := by
  obtain ⟨_, _, _, _, _, _, _, f5, f6⟩ := row_facts hf h0 h1
  have c1 := fun rest => s_spec_l3RowOf hf h0 h1 rest
  have h := l_spec_l5Text (rowL s.g i) [] [] QQ (rowL s.g i).length (by unfold QQ; omega) rfl (by omega) (by simp) f6
  rw [show ownB eU8 [] = ⟨[], 1, true, true⟩ from rfl] at h
  simp at h
  simp +contextual -implicitDefEqProofs [X_spec_l5Text, retK_eq, cutK_eq, c1, h]
theorem s_impl_rowText {s : ScrT} {i : Int} (hf : faultG s.g = 0) (h0 : 0 ≤ i) (h1 : i ≤ s.g.r - 1) (rest : List Value) : X_impl_Screen_rowText [scrP s rest, .int .i64 i] [] = some (.string (bstr (txtL (rowL s.g i))), []) := by
  obtain ⟨w1, w2, w3, _, _, _, _, f5, f6⟩ := row_facts hf h0 h1
  have hs := sl_row hf h0 h1
  have h := l_impl_rowText (rowL s.g i) [] [] QQ (rowL s.g i).length (by unfold QQ; omega) rfl (by omega) (by simp) f6
  rw [show ownB eU8 [] = ⟨[], 1, true, true⟩ from rfl] at h
  simp at h
  simp +contextual -implicitDefEqProofs [X_impl_Screen_rowText, retK_eq, cutK_eq, w1, w2, w3, hs, h]
theorem faultG_of {s : ScrT} (h : faultS s = 0) : faultG s.g = 0 := by
  unfold faultS at h
  split at h
  · assumption
  · rename_i hh; exact absurd h hh
theorem s_eqTextResult (a : Int) (t : ByteArray) : X_laws_eqTextResult [.agg #[.int .i64 a, .string t], .agg #[.int .i64 a, .string t]] [] = some (.bool true, []) := by
  simp +contextual -implicitDefEqProofs [X_laws_eqTextResult, retK_eq]
end Go.Ab
namespace Go.Ab
set_option maxHeartbeats 4000000
set_option maxRecDepth 100000
def rowT (s : ScrT) (k : Nat) : ByteArray := if (k : Int) < s.g.r ∧ faultG s.g = 0 then bstr (txtL (rowL s.g k)) else .empty
theorem txtL_len : ∀ l : List CellT, (txtL l).length ≤ 3 * l.length
  | [] => by simp [txtL]
  | x :: r => by
    have h := txtL_len r
    have h2 := encB_len x.c
    rw [txtL_cons]
    simp only [List.length_append, List.length_cons]
    omega
theorem rowT_le (s : ScrT) (k : Nat) : (rowT s k).size ≤ 1000 := by
  unfold rowT
  split
  · rename_i h
    obtain ⟨_, _, _, _, _, _, _, f5, _⟩ := row_facts h.2 (show (0 : Int) ≤ k by omega) (by omega)
    have h1 := txtL_len (rowL s.g k)
    have e : (bstr (txtL (rowL s.g k))).size = (txtL (rowL s.g k)).length := by simp [bstr, ByteArray.size]
    omega
  · exact Nat.zero_le _
def accS (s : ScrT) (k : Nat) : ByteArray := ⟨(acc (rowT s) k).toArray⟩
theorem accS_next (s : ScrT) (k : Nat) : accS s k ++ rowT s k ++ (⟨#[10]⟩ : ByteArray) = accS s (k + 1) := by
  apply ByteArray.ext
  simp [accS, acc]
theorem accS_size (s : ScrT) (k : Nat) : (accS s k).size ≤ 1001 * k := by
  have h := acc_len (rowT s) (rowT_le s) k
  have e : (accS s k).size = (acc (rowT s) k).length := by simp [accS, ByteArray.size]
  omega
theorem l_spec_l6Text (v : VtT) (R : Nat) (hR : v.s.g.r = R) (hf : faultG v.s.g = 0) (h6 : R ≤ 6) (rest : List Value) (d : Nat) : ∀ (k q : Nat), R - k = d → k ≤ R → d < q → L_spec_l6Text 0 q 0 [vtP v rest, .string (accS v.s k), .int .i64 k] [] = some (.string (accS v.s R), []) := by
  induction d with
  | zero =>
    intro k q hk hle hq
    obtain ⟨q, rfl⟩ : ∃ n, q = n + 1 := ⟨q - 1, by omega⟩
    obtain rfl : k = R := by omega
    simp (maxSteps := 1000000) -implicitDefEqProofs [L_spec_l6Text, retK_eq, hR]
  | succ d ih =>
    intro k q hk hle hq
    obtain ⟨q, rfl⟩ : ∃ n, q = n + 1 := ⟨q - 1, by omega⟩
    have h := ih (k + 1) q (by omega) (by omega) (by omega)
    have hlt : (k : Int) < R := by omega
    have hlt' : k < R := by omega
    have hw : IntKind.i64.wrap ((k : Int) + 1) = k + 1 := wrap_i64 (by omega) (by omega)
    have c1 := fun rest => s_spec_l5Text hf (show (0 : Int) ≤ k by omega) (show (k : Int) ≤ v.s.g.r - 1 by omega) rest
    have e : bstr (txtL (rowL v.s.g k)) = rowT v.s k := by
      unfold rowT
      rw [if_pos ⟨by omega, hf⟩]
    rw [e] at c1
    have hz1 := rowT_le v.s k
    have hz2 := accS_size v.s k
    have z3 : (⟨#[10]⟩ : ByteArray).size = 1 := rfl
    have hn := accS_next v.s k
    have g1 : (accS v.s k).size + (rowT v.s k).size ≤ 4611686018427387904 := by omega
    have g2 : (accS v.s k).size + (rowT v.s k).size + 1 ≤ 4611686018427387904 := by omega
    generalize rowT v.s k = T at *
    push_cast at h
    generalize accS v.s (k + 1) = S1 at *
    generalize accS v.s k = S0 at *
    simp (maxSteps := 1000000) -implicitDefEqProofs [L_spec_l6Text, retK_eq, cutK_eq, hR, hlt, hlt', hw, c1, g1, g2, z3, hn, h, ByteArray.size_append]
theorem faultS_of {v : VtT} (h : faultV v = 0) : faultS v.s = 0 := by
  unfold faultV at h
  split at h
  · rename_i h1
    split at h
    · exact h
    · rename_i h2; exact absurd h h2
  · rename_i h1; exact absurd h h1
def resV (v : VtT) : Value := if faultV v = 0 then .agg #[.int .i64 0, .string (accS v.s v.s.g.r.toNat)] else .agg #[.int .i64 (faultV v), .string .empty]
theorem s_spec_VtText (v : VtT) (hv : v.small) : X_spec_VtText [vtV v] [] = some (resV v, []) := by
  have c1 := fun rest => s_spec_l6Fault v hv rest
  by_cases h : faultV v = 0
  · have hg := faultG_of (faultS_of h)
    have hb := szB_b (szB_of hg)
    obtain ⟨R, hR⟩ : ∃ R : Nat, v.s.g.r = R := ⟨v.s.g.r.toNat, by omega⟩
    have hq : R < QQ := by
      have : (7 : Nat) < QQ := by decide
      omega
    have c2 := fun rest => l_spec_l6Text v R hR hg (by omega) rest R 0 QQ rfl (Nat.zero_le _) hq
    have e0 : accS v.s 0 = ⟨#[]⟩ := rfl
    have e1 : v.s.g.r.toNat = R := by omega
    rw [e0] at c2
    simp only [Int.natCast_zero] at c2
    have c3 : ∀ rest, X_spec_l6Text [vtP v rest] [] = some (.string (accS v.s R), []) := fun rest => by
      simp (maxSteps := 1000000) -implicitDefEqProofs [X_spec_l6Text, retK_eq, cutK_eq, c2]
    unfold resV
    rw [if_pos h, e1]
    simp (maxSteps := 2000000) +contextual -implicitDefEqProofs [X_spec_VtText, retK_eq, c1, c3, h]
  · unfold resV
    rw [if_neg h]
    simp (maxSteps := 2000000) +contextual -implicitDefEqProofs [X_spec_VtText, retK_eq, c1, h]
end Go.Ab
namespace Go.Ab
open Go.Proofs Go.RowKit
set_option maxHeartbeats 4000000
set_option maxRecDepth 100000
open Classical in
noncomputable def X_impl_VtText : List Value → Mem → Option VM := fun args m => if (∃ v : VtT, v.small ∧ args = [vtV v] ∧ m = []) then X_spec_VtText args m else none
noncomputable def C_impl_VtText : List Value → Mem → Option VM := fcall X_impl_VtText
@[simp] theorem c_impl_VtText : C_impl_VtText = fcall X_impl_VtText := (rfl)
theorem s_impl_VtText (v : VtT) (hv : v.small) : X_impl_VtText [vtV v] [] = some (resV v, []) := by
  unfold X_impl_VtText
  rw [if_pos ⟨v, hv, rfl, rfl⟩]
  exact s_spec_VtText v hv
def coldV : Value → Bool
  | .int _ _ => true
  | .bool _ => true
  | .iface _ _ => true
  | _ => false
theorem VR.cold {ι ι2 : Emb} (hfz : ∀ g c, ι.fz g = some c → ι2.fz g = some c) {v v' : Value} (hc : coldV v = true) (r : VR ι v v') : VR ι2 v v' := by
  have hle : ι.bare.le ι2.bare := ⟨fun _ _ e => by simp [Emb.bare] at e, hfz⟩
  cases r with
  | bool b => exact .bool b
  | int k n => exact .int k n
  | ro len cs g off ccap c h1 h2 h3 h4 h5 => exact .ro len cs g off ccap c (hfz _ _ h1) h2 h3 (fun i x y hx hy => (h4 i x y hx hy).mono hle) h5
  | ro0 a ccap h => exact .ro0 a ccap h
  | rop cs g off c h1 h2 h3 h4 => exact .rop cs g off c (hfz _ _ h1) h2 (fun i x y hx hy => (h3 i x y hx hy).mono hle) h4
  | _ => cases hc
theorem rep_empty {B B' : Nat} {ι : Emb} {w W : World} (R : Rep B ι [] w) (h : Below w.heap.size w W) : Rep B' ι [] W where
  cells n l b _ h2 _ := by simp at h2
  apart n n' l l' b b' _ _ _ h2 := by simp at h2
  base n l b _ h2 := by simp at h2
  es n l b _ h2 := by simp at h2
  frozen g c hg := by
    obtain ⟨e, z, hc⟩ := R.frozen g c hg
    exact ⟨e, z, (h.block g (Array.getElem?_eq_some_iff.1 hc).1).trans hc⟩
  cold n l b _ h2 := by simp at h2
  kept n l b _ h2 := by simp at h2
theorem below_of {B : Nat} {ι ι' : Emb} {W W' : World} (A : After B ι [] W ι' [] W') : Below W.heap.size W W' := ⟨A.os, A.tape, A.output, A.size, fun k hk => A.frame k hk (fun n l b _ h2 => by simp at h2)⟩
theorem after_of {B : Nat} {ι : Emb} {w w' : World} (R : Rep B ι [] w) (h : Below w.heap.size w w') : After B ι [] w ι [] w' where
  len := Nat.le_refl _
  keep _ _ := rfl
  rep := rep_empty R h
  frame g hg _ := h.block g hg
  origin n l b _ _ h3 := by simp at h3
  alive k b' h1 := by simp at h1
  fz _ _ e := e
  ice _ e := .inl e
  unreal k h1 := by simp at h1
  os := h.os
  tape := h.tape
  output := h.output
  size := h.size
theorem con_empty {f : FuncId} {args : List Value} {v : Value} (h : Con CT f args [] v []) {B : Nat} {ι : Emb} {w W : World} (R : Rep B ι [] w) (hb : Below w.heap.size w W) (args' : Array Value) (hv : VRL ι args args'.toList) : Calls Try.prog f args' W fun e W' => (∃ v' ι', e = .returned v' ∧ VR ι' v v') ∧ Below W.heap.size W W' := by
  refine (h.2.2 0 ι W args' (rep_empty R hb) (fun g hg => absurd hg (Nat.not_lt_zero g)) (Nat.zero_le _) hv (fun n h1 h2 => absurd h2 (Nat.not_lt_zero n))).mono ?_
  rintro e W' ⟨v', ι', rfl, A, r⟩
  exact ⟨⟨v', ι', rfl, r⟩, below_of A⟩
theorem cC_VtFault (v : VtT) (hv : v.small) : Con CT 17 [vtV v] [] (.int .i64 (faultV v)) [] :=
  ok_X_impl_VtFault _ _ _ _ (s_impl_VtFault v hv) .nil (fzL_low (show mapO (fz 64 []) [vtV v] = some [vtV v] by simp))
theorem cC_rowText (s : ScrT) (k : Nat) (hf : faultG s.g = 0) (hk : (k : Int) < s.g.r) : Con CT 19 [scrP s [], .int .i64 k] [] (.string (rowT s k)) [] := by
  have e : rowT s k = bstr (txtL (rowL s.g k)) := by unfold rowT; rw [if_pos ⟨hk, hf⟩]
  rw [e]
  exact ok_X_impl_Screen_rowText _ _ _ _ (s_impl_rowText hf (by omega) (by omega) []) .nil (fzL_low (show mapO (fz 64 []) [scrP s [], .int .i64 k] = some [scrP s [], .int .i64 k] by simp))
theorem VR.two {ι : Emb} (k : Int) (s : ByteArray) : VR ι (.agg #[.int .i64 k, .string s]) (.agg #[.int .i64 k, .string s]) := VRL.agg (VRL.cons (.int _ _) (VRL.cons (.string _) .nil))
theorem ok_X_impl_VtText : OkX CT 7 X_impl_VtText := by
  intro args m v0 m' h hm hlow
  unfold X_impl_VtText at h
  split at h
  · rename_i hx
    obtain ⟨v, hv, rfl, rfl⟩ := hx
    rw [s_spec_VtText v hv] at h
    cases h
    refine ⟨⟨Nat.le_refl _, fun k b hk => by simp at hk⟩, ⟨Try.f7, Try.func7, by kernel_rfl, by kernel_rfl⟩, ?_⟩
    intro B ι w args' R G hB hV hfree
    obtain ⟨a, ys, hA, ra, hn⟩ := hV.cases_cons
    have hn0 := hn.cases_nil
    subst hn0
    obtain ⟨args'⟩ := args'
    have hA' : args' = [a] := hA
    subst hA'
    cases ra with
    | agg _ a' h1 h2 =>
      have V0 : VRL ι (vtL v (frS eI6 v.p.ns) (frS eC v.s.g.cs) (frS eC v.s.g.bk) (frS eB v.s.tabs) (frS eI6 v.s.sets)) a'.toList := VR.arr h1 h2
      clear h1 h2 hn
      obtain ⟨c0, l0, e0, r0, V1⟩ := V0.cases_cons
      obtain ⟨c1, l1, e1, r1, V2⟩ := V1.cases_cons
      subst e1
      obtain ⟨c2, l2, e2, r2, V3⟩ := V2.cases_cons
      subst e2
      obtain ⟨c3, l3, e3, r3, V4⟩ := V3.cases_cons
      subst e3
      obtain ⟨c4, l4, e4, r4, V5⟩ := V4.cases_cons
      subst e4
      obtain ⟨c5, l5, e5, r5, V6⟩ := V5.cases_cons
      subst e5
      obtain ⟨c6, l6, e6, r6, V7⟩ := V6.cases_cons
      subst e6
      obtain ⟨c7, l7, e7, r7, V8⟩ := V7.cases_cons
      subst e7
      obtain ⟨c8, l8, e8, r8, V9⟩ := V8.cases_cons
      subst e8
      obtain ⟨c9, l9, e9, r9, V10⟩ := V9.cases_cons
      subst e9
      obtain ⟨c10, l10, e10, r10, V11⟩ := V10.cases_cons
      subst e10
      obtain ⟨c11, l11, e11, r11, V12⟩ := V11.cases_cons
      subst e11
      obtain ⟨c12, l12, e12, r12, V13⟩ := V12.cases_cons
      subst e12
      obtain ⟨c13, l13, e13, r13, V14⟩ := V13.cases_cons
      subst e13
      obtain ⟨c14, l14, e14, r14, V15⟩ := V14.cases_cons
      subst e14
      obtain ⟨c15, l15, e15, r15, V16⟩ := V15.cases_cons
      subst e15
      obtain ⟨c16, l16, e16, r16, V17⟩ := V16.cases_cons
      subst e16
      obtain ⟨c17, l17, e17, r17, V18⟩ := V17.cases_cons
      subst e17
      obtain ⟨c18, l18, e18, r18, V19⟩ := V18.cases_cons
      subst e18
      obtain ⟨c19, l19, e19, r19, V20⟩ := V19.cases_cons
      subst e19
      obtain ⟨c20, l20, e20, r20, V21⟩ := V20.cases_cons
      subst e20
      obtain ⟨c21, l21, e21, r21, V22⟩ := V21.cases_cons
      subst e21
      obtain ⟨c22, l22, e22, r22, V23⟩ := V22.cases_cons
      subst e22
      obtain ⟨c23, l23, e23, r23, V24⟩ := V23.cases_cons
      subst e23
      obtain ⟨c24, l24, e24, r24, V25⟩ := V24.cases_cons
      subst e24
      obtain ⟨c25, l25, e25, r25, V26⟩ := V25.cases_cons
      subst e25
      obtain ⟨c26, l26, e26, r26, V27⟩ := V26.cases_cons
      subst e26
      have hnil := V27.cases_nil
      subst hnil
      obtain ⟨a'⟩ := a'
      have e0' : a' = [c0, c1, c2, c3, c4, c5, c6, c7, c8, c9, c10, c11, c12, c13, c14, c15, c16, c17, c18, c19, c20, c21, c22, c23, c24, c25, c26] := e0
      subst e0'
      have x7 : c7 = .int .i64 v.s.g.r := by cases r7; rfl
      have hF : ∀ W, Below w.heap.size w W → Calls Try.prog 17 #[.agg #[c0, c1, c2, c3, c4, c5, c6, c7, c8, c9, c10, c11, c12, c13, c14, c15, c16, c17, c18, c19, c20, c21, c22, c23, c24, c25, c26]] W fun e W' => e = .returned (.int .i64 (faultV v)) ∧ Below W.heap.size W W' := fun W hb => by
        refine (con_empty (cC_VtFault v hv) R hb #[.agg #[c0, c1, c2, c3, c4, c5, c6, c7, c8, c9, c10, c11, c12, c13, c14, c15, c16, c17, c18, c19, c20, c21, c22, c23, c24, c25, c26]] hV).mono ?_
        rintro e W' ⟨⟨v', ι', rfl, rr⟩, b⟩
        cases rr
        exact ⟨rfl, b⟩
      by_cases hf : faultV v = 0
      · have hg := faultG_of (faultS_of hf)
        have hb := szB_b (szB_of hg)
        obtain ⟨R', hR⟩ : ∃ R' : Nat, v.s.g.r = R' := ⟨v.s.g.r.toNat, by omega⟩
        have eR : v.s.g.r.toNat = R' := by omega
        rw [hR] at x7
        subst x7
        rw [hf] at hF
        refine (vt_good c0 c1 c2 c3 c4 c5 c6 c8 c9 c10 c11 c12 c13 c14 c15 c16 c17 c18 c19 c20 c21 c22 c23 c24 c25 c26 R' (rowT v.s) (rowT_le v.s) (by omega) w hF ?_).mono ?_
        · intro W k hbl hbox hk
          have hfz : ∀ g c, ι.fz g = some c → (if g = w.heap.size then some #[c0, c1, c2, c3, c4, c5, c6, .int .i64 (R' : Int), c8, c9, c10, c11, c12, c13, c14, c15, c16, c17, c18, c19, c20, c21, c22, c23, c24, c25, c26] else ι.fz g) = some c := fun g c hc => by
            obtain ⟨e, z, hh⟩ := R.frozen g c hc
            have := (Array.getElem?_eq_some_iff.1 hh).1
            rw [if_neg (by omega)]
            exact hc
          have R1 : Rep 0 { ι with fz := fun g => if g = w.heap.size then some #[c0, c1, c2, c3, c4, c5, c6, .int .i64 (R' : Int), c8, c9, c10, c11, c12, c13, c14, c15, c16, c17, c18, c19, c20, c21, c22, c23, c24, c25, c26] else ι.fz g } [] W := {
            cells := fun n l b _ h2 _ => by simp at h2
            apart := fun n n' l l' b b' _ _ _ h2 => by simp at h2
            base := fun n l b _ h2 => by simp at h2
            es := fun n l b _ h2 => by simp at h2
            frozen := fun g c hc => by
              by_cases hg2 : g = w.heap.size
              · have : some #[c0, c1, c2, c3, c4, c5, c6, .int .i64 (R' : Int), c8, c9, c10, c11, c12, c13, c14, c15, c16, c17, c18, c19, c20, c21, c22, c23, c24, c25, c26] = some c := by simpa [hg2] using hc
                obtain rfl := Option.some.inj this
                exact ⟨47, (0, 0), by rw [hg2]; exact hbox⟩
              · have hc' : ι.fz g = some c := by simpa [hg2] using hc
                exact (rep_empty (B' := 0) R hbl).frozen g c hc'
            cold := fun n l b _ h2 => by simp at h2
            kept := fun n l b _ h2 => by simp at h2 }
          refine (con_empty (cC_rowText v.s k hg (by omega)) R1 (Below.refl _ W) #[.pointer (some ⟨w.heap.size, 7, none⟩), .int .i64 k] ?_).mono ?_
          · refine VRL.cons (VR.rop _ w.heap.size 7 #[c0, c1, c2, c3, c4, c5, c6, .int .i64 (R' : Int), c8, c9, c10, c11, c12, c13, c14, c15, c16, c17, c18, c19, c20, c21, c22, c23, c24, c25, c26] (if_pos rfl) (Or.inr ?_) ?_ (by rfl)) (VRL.cons (.int _ _) .nil)
            · show 7 + 20 ≤ 27
              omega
            · intro i x y hx hy
              have hx' : (scrT v.s (frS eC v.s.g.cs) (frS eC v.s.g.bk) (frS eB v.s.tabs) (frS eI6 v.s.sets) [])[i]? = some x := by simpa using hx
              have hy' : ([c0, c1, c2, c3, c4, c5, c6, .int .i64 (R' : Int), c8, c9, c10, c11, c12, c13, c14, c15, c16, c17, c18, c19, c20, c21, c22, c23, c24, c25, c26].drop 7)[i]? = some y := by rw [List.getElem?_drop]; simpa using hy
              have hcold : coldV x = true := by
                have ha : (scrT v.s (frS eC v.s.g.cs) (frS eC v.s.g.bk) (frS eB v.s.tabs) (frS eI6 v.s.sets) []).all coldV = true := rfl
                exact List.all_eq_true.1 ha x (List.mem_of_getElem? hx')
              exact VR.cold (ι := ι) hfz hcold (V7.2 i x y hx' hy')
          · rintro e W' ⟨⟨v', ι', rfl, rr⟩, b⟩
            cases rr
            exact ⟨rfl, b⟩
        · rintro e w' ⟨rfl, b⟩
          refine ⟨_, ι, rfl, after_of R b, ?_⟩
          unfold resV
          rw [if_pos hf, eR]
          exact VR.two _ _
      · refine (vt_bad c0 c1 c2 c3 c4 c5 c6 c8 c9 c10 c11 c12 c13 c14 c15 c16 c17 c18 c19 c20 c21 c22 c23 c24 c25 c26 c7 (faultV v) hf w hF).mono ?_
        rintro e w' ⟨rfl, b⟩
        refine ⟨_, ι, rfl, after_of R b, ?_⟩
        unfold resV
        rw [if_neg hf]
        exact VR.two _ _
  · cases h
theorem ok_C_impl_VtText : OkC CT 7 C_impl_VtText := fcall_ok rfl ok_X_impl_VtText
end Go.Ab
