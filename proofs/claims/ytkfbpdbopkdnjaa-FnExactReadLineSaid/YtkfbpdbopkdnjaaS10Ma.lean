/- What the functions of the program answer, for all arguments that the theorems name as conditions. -/
import Derived.Test.YtkfbpdbopkdnjaaXFnExactReadLine
import Derived.Test.YtkfbpdbopkdnjaaFD
namespace Go.Ab
set_option linter.unusedSimpArgs false
set_option linter.unusedVariables false
set_option maxHeartbeats 8000000

/-! ## Numbers, slices, blocks -/
abbrev eI6 : Enc Int := eI .i64
abbrev eU8 : Enc Int := eI .u8
abbrev slO (n l : Nat) : Value := .slice (some ⟨n, 0, none⟩) l l
abbrev ptr (n : Nat) : Value := .pointer (some ⟨n, 0, none⟩)
abbrev blk (l : List Value) : Blk := ⟨l, 0, true, true⟩
@[simp] theorem rn_hard_ro0 (k : Nat) (π : Nat → Option Nat) : rnV (k + 1) hard π (roS 0 []) = some (roS 0 []) := rnV_p rfl
@[simp] theorem hard_ro0 : hard (roS 0 []) = true := (rfl)
theorem lay_set {α : Type} (E : Enc α) (l : List α) (j : Nat) (x : α) (h : j < l.length) : lay (cellsE E l) (j * E.sz) (E.f x) = cellsE E (l.set j x) := by
  have e1 : l = l.take j ++ l[j] :: l.drop (j + 1) := by simp
  have e2 : l.set j x = l.take j ++ x :: l.drop (j + 1) := by rw [List.set_eq_take_append_cons_drop, if_pos h]
  have := lay_mid E (l.take j) l[j] (l.drop (j + 1)) x
  rw [← e1, ← e2, List.length_take, Nat.min_eq_left (by omega)] at this
  exact this
@[simp] theorem shB_eB (N k : Nat) (l : List Bool) : shB N k (ownB eB l) = some (ownB eB l) := shB_own eB eB_hard N k l
@[simp] theorem shB_eI (q : IntKind) (N k : Nat) (l : List Int) : shB N k (ownB (eI q) l) = some (ownB (eI q) l) := shB_own (eI q) (eI_hard q) N k l
@[simp] theorem mk_eB (n : Nat) : (⟨List.replicate n (Value.bool false), 1, true, true⟩ : Blk) = ownB eB (List.replicate n false) := by
  have := flat_rep eB n false
  simp at this
  rw [this]; rfl
@[simp] theorem mk_eI (q : IntKind) (n : Nat) : (⟨List.replicate n (Value.int q 0), 1, true, true⟩ : Blk) = ownB (eI q) (List.replicate n 0) := by
  have := flat_rep (eI q) n 0
  simp at this
  rw [this]; rfl
theorem wrap_one {t : Int} (h0 : 0 ≤ t) (h1 : t ≤ 1000000000000) : IntKind.i64.wrap (t + 1) = t + 1 ∧ IntKind.i64.wrap (t + 1 + 1) = t + 1 + 1 := ⟨wrap_i64 (by omega) (by omega), wrap_i64 (by omega) (by omega)⟩
theorem bnd_nat (k : IntKind) (i d : Nat) : bndX (some (.int k (i : Int))) d = some i := by
  show (if (0 : Int) ≤ (i : Int) then some (i : Int).toNat else none) = some i
  rw [if_pos (by omega)]
  simp
theorem lay_setI (k : IntKind) (l : List Int) (j : Nat) (x : Int) (h : j < l.length) : lay (cellsE (eI k) l) j [.int k x] = cellsE (eI k) (l.set j x) := by
  have := lay_set (eI k) l j x h
  simpa using this
theorem cellI (k : IntKind) (l : List Int) (j : Nat) (h : j < l.length) : (cellsE (eI k) l)[j]? = some (.int k (gt l j)) := by
  have := cell_at (eI k) (l := l) (i := j) (o := 0) h (by show 0 < 1; omega)
  simpa using this
end Go.Ab
namespace Go.Ab
set_option linter.unusedSimpArgs false
set_option linter.unusedVariables false
set_option maxHeartbeats 8000000

theorem s_impl_first (a b : Int) : X_impl_first [frS eI6 [a, b]] [] = some (.int .i64 (if a = 0 then b else a), []) := by
  have h1 : ∀ q, L_impl_first 0 (q + 1) 0 [frS eI6 [a, b], .int .i64 2, .int .i64 2] [] = some (.int .i64 0, []) := by
    intro q
    simp +contextual -implicitDefEqProofs [L_impl_first, retK_eq, cutK_eq]
  have h2 : ∀ q, L_impl_first 0 (q + 2) 0 [frS eI6 [a, b], .int .i64 2, .int .i64 1] [] = some (.int .i64 b, []) := by
    intro q
    have hx := ixa_mid eI6 (sz := 1) rfl .i64 [a] b []
    simp at hx
    simp +contextual -implicitDefEqProofs [L_impl_first, retK_eq, cutK_eq, h1, hx, wrap_i64]
  have h3 : L_impl_first 0 QQ 0 [frS eI6 [a, b], .int .i64 2, .int .i64 0] [] = some (.int .i64 (if a = 0 then b else a), []) := by
    obtain ⟨q, hq⟩ : ∃ n, QQ = n + 3 := ⟨QQ - 3, by unfold QQ; omega⟩
    have hx := ixa_mid eI6 (sz := 1) rfl .i64 [] a [b]
    simp at hx
    rw [hq]
    simp +contextual -implicitDefEqProofs [L_impl_first, retK_eq, cutK_eq, h2, hx, wrap_i64]
    split <;> rfl
  simp +contextual -implicitDefEqProofs [X_impl_first, retK_eq, cutK_eq, h3]
@[simp] theorem fz_two (k : Nat) (m : Mem) (a b : Int) : fzO (k + 1) m (some ⟨[.int .i64 a, .int .i64 b], 1, true, true⟩) 0 2 = some (frS eI6 [a, b]) := fzO_own eI6 k m [a, b]
end Go.Ab
namespace Go.Ab
set_option linter.unusedSimpArgs false
set_option linter.unusedVariables false
set_option maxHeartbeats 8000000

def unl (t : Bool) (a : Int) : Int := if t = true then 0 else a
theorem s_impl_unless (t : Bool) (a : Int) : X_impl_unless [.bool t, .int .i64 a] [] = some (.int .i64 (unl t a), []) := by
  simp +contextual -implicitDefEqProofs [X_impl_unless, retK_eq]
  cases t <;> simp [unl]
end Go.Ab
namespace Go.Ab
set_option linter.unusedSimpArgs false
set_option linter.unusedVariables false
set_option maxHeartbeats 8000000

/-! ## Small functions -/
def inB (x a b : Int) : Bool := decide (a ≤ x) && decide (x ≤ b)
theorem inB_iff {x a b : Int} : inB x a b = true ↔ a ≤ x ∧ x ≤ b := by simp [inB]
end Go.Ab
namespace Go.Ab
set_option linter.unusedSimpArgs false
set_option linter.unusedVariables false
set_option maxHeartbeats 8000000

theorem s_spec_l1In (x a b : Int) : X_spec_l1In [.int .i64 x, .int .i64 a, .int .i64 b] [] = some (.bool (inB x a b), []) := by
  simp +contextual -implicitDefEqProofs [X_spec_l1In, retK_eq]
  by_cases h : a ≤ x <;> simp [h, inB]
end Go.Ab
namespace Go.Ab
set_option linter.unusedSimpArgs false
set_option linter.unusedVariables false
set_option maxHeartbeats 8000000

theorem s_impl_in (x a b : Int) : X_impl_in [.int .i64 x, .int .i64 a, .int .i64 b] [] = some (.bool (inB x a b), []) := by
  simp +contextual -implicitDefEqProofs [X_impl_in, retK_eq]
  by_cases h : a ≤ x <;> simp [h, inB]
end Go.Ab
namespace Go.Ab
set_option linter.unusedSimpArgs false
set_option linter.unusedVariables false
set_option maxHeartbeats 8000000

def szN (n : Nat) (left : Int) : Int := if left - n < 0 then -1 else left - n
theorem szN_le {n : Nat} {x : Int} (h : x ≤ 1048576) : szN n x ≤ 1048576 := by unfold szN; split <;> omega
theorem szN_small {n : Nat} {x : Int} (hx : x ≤ 1048576) (h : 0 ≤ szN n x) : n < 1000000000 := by
  unfold szN at h; split at h <;> omega
end Go.Ab
namespace Go.Ab
set_option linter.unusedSimpArgs false
set_option linter.unusedVariables false
set_option maxHeartbeats 8000000

/-! ## Bytes, slices of bytes -/
theorem l_toByteS (r : List Int) : ∀ (p : List Int) (q n : Nat), r.length < q → n = (p ++ r).length → n < 1000000000 → L_laws_toByteS 0 q 0 [frS eU8 (p ++ r), .slice (some ⟨0, 0, none⟩) n n, .int .i64 p.length] [ownB eU8 (p ++ List.replicate r.length 0)] = some (.slice (some ⟨0, 0, none⟩) n n, [ownB eU8 (p ++ r)]) := by
  induction r with
  | nil =>
    intro p q n hq hn hl
    obtain ⟨q, rfl⟩ : ∃ n, q = n + 1 := ⟨q - 1, by omega⟩
    simp -implicitDefEqProofs [L_laws_toByteS, retK_eq]
  | cons x r ih =>
    intro p q n hq hn hl
    obtain ⟨q, rfl⟩ : ∃ n, q = n + 1 := ⟨q - 1, by omega⟩
    have h := ih (p ++ [x]) q n (by simp at hq; omega) (by simpa using hn) hl
    simp at h
    have hx := ixa_mid eU8 (sz := 1) rfl .i64 p x r
    have hw := wrap_next (n := p.length) (by simp at hn; omega)
    have hn' : n = p.length + (r.length + 1) := by simpa using hn
    subst hn'
    have hy := lay_mid eU8 p 0 (List.replicate r.length 0) x
    simp at hy
    simp +contextual -implicitDefEqProofs [L_laws_toByteS, retK_eq, cutK_eq, hx, hw, h, List.replicate_succ, hy]
theorem s_toByteS (l : List Int) (hl : l.length < 1000000000) : X_laws_toByteS [frS eU8 l] [] = some (slO 0 l.length, [ownB eU8 l]) := by
  have h := l_toByteS l [] QQ l.length (by unfold QQ; omega) rfl hl
  simp at h
  simp +contextual -implicitDefEqProofs [X_laws_toByteS, cutK_eq, retK_eq, h, hl]
def eBS : Enc (List Int) := ⟨1, fun l => [frS eU8 l], by decide, fun _ => rfl, fun _ => rfl⟩
@[simp] theorem eBS_f (l : List Int) : eBS.f l = [frS eU8 l] := (rfl)
@[simp] theorem eBS_sz : eBS.sz = 1 := (rfl)
/-- A slice of bytes in a block of its own. -/
def elS (l : List Int) : El Int := ⟨[], .ow [] l [] 0 l.length, []⟩
def elZ : El Int := ⟨[], .no (.slice none 0 0), []⟩
@[simp] theorem elS_p (l : List Int) : (elS l).p = .ow [] l [] 0 l.length := (rfl)
theorem elS_ok (l : List Int) : (elS l).ok eU8 := ⟨rfl, rfl, fun _ => rfl⟩
theorem elZ_ok : elZ.ok eU8 := ⟨rfl, rfl, .inl rfl⟩
theorem elS_N : ∀ l : List (List Int), famN (l.map elS) = l.length
  | [] => rfl
  | x :: r => by
    rw [List.map_cons, famN, elS_N r, List.length_cons]
    show 1 + r.length = _
    omega
theorem elZ_N : ∀ n, famN (List.replicate n elZ) = 0
  | 0 => rfl
  | n + 1 => by
    rw [List.replicate_succ, famN, elZ_N n]
    rfl
theorem famX_S (k : Nat) (l : List Int) (r : List (El Int)) : famX k (elS l :: r) = slO k l.length :: famX (k + 1) r := rfl
theorem famX_Z (k : Nat) (r : List (El Int)) : famX k (elZ :: r) = .slice none 0 0 :: famX k r := rfl
theorem famX_zero_rep (k : Nat) : ∀ n, famX k (List.replicate n elZ) = List.replicate n (.slice none 0 0)
  | 0 => rfl
  | n + 1 => by rw [List.replicate_succ, famX_Z, famX_zero_rep k n, List.replicate_succ]
theorem famM_Z : ∀ n, famM eU8 (List.replicate n elZ) = []
  | 0 => rfl
  | n + 1 => by
    rw [List.replicate_succ, famM, famM_Z n]
    rfl
theorem famX_Slen (k : Nat) (l : List (List Int)) : (famX k (l.map elS)).length = l.length := by
  have := famX_len (s := 1) (l.map elS) k (fun e he => by
    obtain ⟨x, _, rfl⟩ := List.mem_map.1 he
    rfl)
  simpa using this
abbrev memS (p : List (List Int)) (n : Nat) : Mem := famB 1 1 (p.map elS ++ List.replicate n elZ) :: famM eU8 (p.map elS ++ List.replicate n elZ)
theorem ok_S (p : List (List Int)) (n : Nat) : ∀ e ∈ p.map elS ++ List.replicate n elZ, e.ok eU8 := by
  intro e he
  rcases List.mem_append.1 he with h | h
  · obtain ⟨x, _, rfl⟩ := List.mem_map.1 h
    exact elS_ok x
  · rw [List.eq_of_mem_replicate h]
    exact elZ_ok
theorem N_S (p : List (List Int)) (n : Nat) : famN (p.map elS ++ List.replicate n elZ) = p.length := by
  rw [famN_app, elS_N, elZ_N, Nat.add_zero]
theorem lay_one (L : List Value) (a v : Value) (r : List Value) : lay (L ++ a :: r) L.length [v] = L ++ v :: r := by
  induction L with
  | nil => simp [lay, lay_nil]
  | cons b L ih => simpa [lay] using ih
theorem famM_S1 (x : List Int) : famM eU8 ([x].map elS) = [ownB eU8 x] := by
  show [ownB eU8 ([] ++ (x ++ []))] ++ [] = _
  simp
theorem lay_S (p : List (List Int)) (n : Nat) (x : List Int) : lay (famX 1 (p.map elS ++ List.replicate (n + 1) elZ)) p.length [slO (p.length + 1) x.length] = famX 1 ((p ++ [x]).map elS ++ List.replicate n elZ) := by
  rw [famX_app, elS_N, List.replicate_succ, famX_Z, List.map_append, List.append_assoc, famX_app, elS_N]
  have hl := famX_Slen 1 p
  rw [show ([x].map elS ++ List.replicate n elZ) = elS x :: List.replicate n elZ from rfl, famX_S, famX_zero_rep, famX_zero_rep, Nat.add_comm 1 p.length]
  rw [← hl]
  exact lay_one _ _ _ _
theorem famM_S (p : List (List Int)) (n : Nat) (x : List Int) : famM eU8 (p.map elS ++ List.replicate (n + 1) elZ) ++ [ownB eU8 x] = famM eU8 ((p ++ [x]).map elS ++ List.replicate n elZ) := by
  rw [famM_app, famM_Z, List.append_nil, famM_app, famM_Z, List.append_nil, List.map_append, famM_app, famM_S1]
end Go.Ab
namespace Go.Ab
set_option linter.unusedSimpArgs false
set_option linter.unusedVariables false
set_option maxHeartbeats 8000000

/-! ## Sizes -/
theorem s_szByteS (l : List Int) (left : Int) (hl : l.length ≤ 9223372036854775807) (h0 : 0 ≤ left) (h1 : left ≤ 1048576) : X_laws_szByteS [frS eU8 l, .int .i64 left] [] = some (.int .i64 (szN l.length left), []) := by
  have hw : IntKind.i64.wrap (left - l.length) = left - l.length := wrap_i64 (by omega) (by omega)
  simp +contextual -implicitDefEqProofs [X_laws_szByteS, retK_eq, hw]
  unfold szN
  split <;> rfl
def szL : List Nat → Int → Int
  | [], left => left
  | n :: r, left => if szN n left < 0 then -1 else szL r (szN n left)
theorem szN_neg {n : Nat} {x : Int} (h : szN n x < 0) : szN n x = -1 := by unfold szN at *; split at h <;> simp_all
end Go.Ab
namespace Go.Ab
set_option linter.unusedSimpArgs false
set_option linter.unusedVariables false
set_option maxHeartbeats 8000000

/-! ## A copy of slices of bytes -/
theorem eU8_hard : eU8.Hard := eI_hard .u8
end Go.Ab
namespace Go.Ab
set_option linter.unusedSimpArgs false
set_option linter.unusedVariables false
set_option maxHeartbeats 8000000

theorem l_toByteSS (r : List (List Int)) : ∀ (p : List (List Int)) (q n : Nat), r.length < q → n = (p ++ r).length → n < 1100000 → (∀ x ∈ r, x.length < 1000000000) → L_laws_toByteSS 0 q 0 [frS eBS (p ++ r), slO 0 n, .int .i64 p.length] (memS p r.length) = some (slO 0 n, memS (p ++ r) 0) := by
  induction r with
  | nil =>
    intro p q n hq hn hl hb
    obtain ⟨q, rfl⟩ : ∃ n, q = n + 1 := ⟨q - 1, by omega⟩
    have hn' : n = p.length := by simpa using hn
    subst hn'
    have hret := fun pv => ret0_fam eU8 (s := 1) (n := p.length) (c := p.length) (es := p.map elS ++ List.replicate 0 elZ) (pv := pv) (ok_S p 0) (by rw [N_S]; omega)
    rw [List.append_nil]
    show L_laws_toByteSS 0 (q + 1) 0 [frS eBS p, slO 0 p.length, .int .i64 p.length] (memS p 0) = some (slO 0 p.length, memS p 0)
    generalize hM : memS p 0 = M
    have hret : ∀ pv, retK 0 M pv (slO 0 p.length) = some (slO 0 p.length, M) := by rw [← hM]; exact hret
    simp -implicitDefEqProofs [L_laws_toByteSS, hret]
  | cons x r ih =>
    intro p q n hq hn hl hb
    obtain ⟨q, rfl⟩ : ∃ n, q = n + 1 := ⟨q - 1, by omega⟩
    have hn' : n = p.length + (r.length + 1) := by simpa using hn
    have h := ih (p ++ [x]) q n (by simp at hq; omega) (by simpa using hn) hl (fun y hy => hb y (by simp [hy]))
    have hx := ixa_mid eBS (sz := 1) rfl .i64 p x r
    have hw := wrap_next (n := p.length) (by omega)
    have hc := s_toByteS x (hb x (by simp))
    have hz := fun n' o cc => ixa_sl (sz := 1) .i64 (n := n') (o := o) (len := n) (c := cc) (j := (p.length : Int)) (by omega) (by omega)
    simp only [Int.toNat_natCast] at hz
    have hFl : (famM eU8 (p.map elS ++ List.replicate (r.length + 1) elZ)).length = p.length := by rw [famM_len, N_S]
    have hC : (famX 1 (p.map elS ++ List.replicate (r.length + 1) elZ)).length = p.length + (r.length + 1) := by
      rw [famX_app, List.length_append, famX_Slen, famX_zero_rep, List.length_replicate]
    have hF := famM_S p r.length x
    have hlay := lay_S p r.length x
    have hcut := fun pv J => cut0_fam eU8 (s := 1) (n := n) (c := n) (es := (p ++ [x]).map elS ++ List.replicate r.length elZ) (xs := [frS eBS (p ++ x :: r)]) (ys := [.int .i64 ((p.length : Int) + 1)]) (pv := pv) (J := J) rfl rfl (ok_S (p ++ [x]) r.length) (by rw [N_S]; simp; omega)
    have e1 : p ++ [x] ++ r = p ++ x :: r := by simp
    have e2 : ((p ++ [x]).length : Int) = p.length + 1 := by simp
    rw [e1, e2] at h
    simp only [memS, famB] at h hcut ⊢
    simp only [List.singleton_append] at hcut
    rw [List.length_cons]
    generalize famM eU8 (p.map elS ++ List.replicate (r.length + 1) elZ) = F1 at *
    generalize famX 1 (p.map elS ++ List.replicate (r.length + 1) elZ) = C at *
    generalize famM eU8 ((p ++ [x]).map elS ++ List.replicate r.length elZ) = F2 at *
    generalize famX 1 ((p ++ [x]).map elS ++ List.replicate r.length elZ) = C2 at *
    have g1 : (p.length : Int) < p.length + (r.length + 1) := by omega
    have g2 : p.length + 1 ≤ p.length + (r.length + 1) := by omega
    simp (maxSteps := 400000) -implicitDefEqProofs [L_laws_toByteSS, hx, hw, hc, hz, hFl, hC, g1, g2, hlay, hF, hcut, h]
end Go.Ab
namespace Go.Ab
set_option linter.unusedSimpArgs false
set_option linter.unusedVariables false
set_option maxHeartbeats 8000000

theorem flat_nil (n : Nat) : (List.replicate n [Value.slice none 0 0]).flatten = List.replicate n (.slice none 0 0) := by
  induction n with
  | zero => rfl
  | succ n ih => rw [List.replicate_succ, List.flatten_cons, ih, List.replicate_succ]; rfl
end Go.Ab
namespace Go.Ab
set_option linter.unusedSimpArgs false
set_option linter.unusedVariables false
set_option maxHeartbeats 8000000

abbrev memA (k : Nat) (l : List (List Int)) : Mem := famB k 1 (l.map elS) :: famM eU8 (l.map elS)
theorem memS_0 (l : List (List Int)) : memS l 0 = memA 1 l := by
  unfold memS
  rw [List.replicate_zero, List.append_nil]
theorem s_toByteSS (l : List (List Int)) (hl : l.length < 1100000) (hb : ∀ x ∈ l, x.length < 1000000000) : X_laws_toByteSS [frS eBS l] [] = some (slO 0 l.length, memS l 0) := by
  have h := l_toByteSS l [] QQ l.length (by unfold QQ; omega) rfl hl hb
  have hcut := fun pv J => cut0_fam eU8 (s := 1) (n := l.length) (c := l.length) (es := [].map elS ++ List.replicate l.length elZ) (xs := [frS eBS l]) (ys := [.int .i64 0]) (pv := pv) (J := J) rfl rfl (ok_S [] l.length) (by rw [N_S]; simp)
  simp only [memS, famB, List.map_nil, List.nil_append, famX_zero_rep, famM_Z, List.singleton_append, List.length_nil, Int.natCast_zero] at h hcut
  have hf := flat_nil l.length
  simp at h
  rw [memS_0]
  simp (maxSteps := 400000) -implicitDefEqProofs [X_laws_toByteSS, hf, hcut, hl, show l.length < 1000000000 by omega]
  exact h
theorem ok_A (l : List (List Int)) : ∀ e ∈ l.map elS, e.ok eU8 := by
  have := ok_S l 0
  rwa [List.replicate_zero, List.append_nil] at this
theorem okH_A (l : List (List Int)) : ∀ e ∈ l.map elS, e.okH := by
  intro e he
  obtain ⟨x, _, rfl⟩ := List.mem_map.1 he
  exact ⟨rfl, rfl⟩
theorem fro_A (l : List (List Int)) : roS (l.map elS).length ((l.map elS).flatMap (El.fro eU8)) = frS eBS l := by
  rw [List.length_map]
  unfold frS
  congr 1
  induction l with
  | nil => rfl
  | cons x r ih => rw [List.map_cons, List.flatMap_cons, ih]; rfl
theorem fz_A (k c : Nat) (A B : Mem) (l : List (List Int)) : fz (k + 3) (A ++ (famB (A.length + 1) 1 (l.map elS) :: (famM eU8 (l.map elS) ++ B))) (.slice (some ⟨A.length, 0, none⟩) l.length c) = some (frS eBS l) := by
  have := fz_all eU8 (k := k) (s := 1) (c := c) A B (l.map elS) (ok_A l) (fun e he => by
    obtain ⟨x, _, rfl⟩ := List.mem_map.1 he
    rfl)
  rw [fro_A, List.length_map] at this
  exact this
theorem f_toByteSS (l : List (List Int)) (hl : l.length < 1100000) (hb : ∀ x ∈ l, x.length < 1000000000) (m : Mem) : fcall X_laws_toByteSS [frS eBS l] m = some (slO m.length l.length, m ++ memA (m.length + 1) l) := by
  have h := s_toByteSS l hl hb
  rw [memS_0] at h
  exact fcall_fam eU8 eU8_hard (by rfl) h (ok_A l) (okH_A l)
end Go.Ab
namespace Go.Ab
set_option linter.unusedSimpArgs false
set_option linter.unusedVariables false
set_option maxHeartbeats 8000000

theorem l_szByteSS (r : List (List Int)) : ∀ (p : List (List Int)) (left : Int) (q : Nat), r.length < q → (p ++ r).length < 1000000000 → (∀ x ∈ r, x.length ≤ 9223372036854775807) → 0 ≤ left → left ≤ 1048576 → L_laws_szByteSS 0 q 0 [frS eBS (p ++ r), .int .i64 left, .int .i64 p.length] [] = some (.int .i64 (szL (r.map List.length) left), []) := by
  induction r with
  | nil =>
    intro p left q hq hl hb h0 h1
    obtain ⟨q, rfl⟩ : ∃ n, q = n + 1 := ⟨q - 1, by omega⟩
    simp -implicitDefEqProofs [L_laws_szByteSS, retK_eq, szL]
  | cons x r ih =>
    intro p left q hq hl hb h0 h1
    obtain ⟨q, rfl⟩ : ∃ n, q = n + 1 := ⟨q - 1, by omega⟩
    have hx := ixa_mid eBS (sz := 1) rfl .i64 p x r
    have hw := wrap_next (n := p.length) (by simp at hl; omega)
    have hc := s_szByteS x left (hb x (by simp)) h0 h1
    have hle := szN_le (n := x.length) h1
    by_cases hs : szN x.length left < 0
    · simp +contextual -implicitDefEqProofs [L_laws_szByteSS, retK_eq, cutK_eq, hx, hw, hc, hs, szL]
    · have h := ih (p ++ [x]) (szN x.length left) q (by simp at hq; omega) (by simpa using hl) (fun y hy => hb y (by simp [hy])) (by omega) hle
      simp at h
      simp +contextual -implicitDefEqProofs [L_laws_szByteSS, retK_eq, cutK_eq, hx, hw, hc, hs, szL, h]
def szSS (l : List (List Int)) (left : Int) : Int := if szN l.length left < 0 then -1 else szL (l.map List.length) (szN l.length left)
theorem s_szByteSS (l : List (List Int)) (left : Int) (hl : l.length ≤ 9223372036854775807) (hb : ∀ x ∈ l, x.length ≤ 9223372036854775807) (h0 : 0 ≤ left) (h1 : left ≤ 1048576) : X_laws_szByteSS [frS eBS l, .int .i64 left] [] = some (.int .i64 (szSS l left), []) := by
  have hw : IntKind.i64.wrap (left - l.length) = left - l.length := wrap_i64 (by omega) (by omega)
  by_cases hs : left - l.length < 0
  · have hs2 : szN l.length left < 0 := by unfold szN; rw [if_pos hs]; omega
    simp +contextual -implicitDefEqProofs [X_laws_szByteSS, retK_eq, cutK_eq, hw, hs, szSS, hs2]
  · have hs2 : szN l.length left = left - l.length := by unfold szN; rw [if_neg hs]
    have h := l_szByteSS l [] (left - l.length) QQ (by unfold QQ; omega) (by simp; omega) hb (by omega) (by omega)
    simp at h
    simp +contextual -implicitDefEqProofs [X_laws_szByteSS, retK_eq, cutK_eq, hw, hs, szSS, hs2, h]
def sumL : List (List Int) → Nat
  | [] => 0
  | x :: r => x.length + sumL r
end Go.Ab
namespace Go.Ab
set_option linter.unusedSimpArgs false
set_option linter.unusedVariables false
set_option maxHeartbeats 8000000

/-! ## Marks in bytes -/
def markB (t : Int) : Nat → List Int
  | 0 => []
  | n + 1 => IntKind.u8.wrap t :: markB (t + 1) n
@[simp] theorem markB_len (t : Int) (n : Nat) : (markB t n).length = n := by
  induction n generalizing t with
  | zero => rfl
  | succ n ih => simp [markB, ih]
theorem lay_setB (l : List Int) (j : Nat) (x : Int) (h : j < l.length) : lay (cellsE eU8 l) j [.int .u8 x] = cellsE eU8 (l.set j x) := lay_setI .u8 l j x h
theorem l_markByteS (r : List Int) : ∀ (p : List Int) (t : Int) (q n : Nat), r.length < q → n = (p ++ r).length → n < 1000000000 → 0 ≤ t → t + r.length ≤ 1000000000000 → L_laws_markByteS 1 q 0 [slO 0 n, .int .i64 t, .int .i64 p.length] [ownB eU8 (p ++ r)] = some (.int .i64 (t + r.length), [ownB eU8 (p ++ markB t r.length)]) := by
  induction r with
  | nil =>
    intro p t q n hq hn hl h0 h1
    obtain ⟨q, rfl⟩ : ∃ n, q = n + 1 := ⟨q - 1, by omega⟩
    subst hn
    simp -implicitDefEqProofs [L_laws_markByteS, retK_eq, markB]
  | cons x r ih =>
    intro p t q n hq hn hl h0 h1
    obtain ⟨q, rfl⟩ : ∃ n, q = n + 1 := ⟨q - 1, by omega⟩
    simp only [List.length_cons] at h1
    have h := ih (p ++ [IntKind.u8.wrap t]) (t + 1) q n (by simp at hq; omega) (by simpa using hn) hl (by omega) (by push_cast at h1; omega)
    simp at h
    have hw := wrap_next (n := p.length) (by simp at hn; omega)
    have hw2 := wrap_one h0 (by omega)
    have hn' : n = p.length + (r.length + 1) := by simpa using hn
    subst hn'
    have hy := lay_mid eU8 p x r (IntKind.u8.wrap t)
    simp at hy
    have e : t + ((r.length : Int) + 1) = t + 1 + r.length := by omega
    simp +contextual -implicitDefEqProofs [L_laws_markByteS, retK_eq, cutK_eq, hw, hw2.1, hy, h, markB, e]
theorem s_markByteS (l : List Int) (t : Int) (hl : l.length < 1000000000) (h0 : 0 ≤ t) (h1 : t ≤ 100000000000) : X_laws_markByteS [slO 0 l.length, .int .i64 t] [ownB eU8 l] = some (.int .i64 (t + l.length), [ownB eU8 (markB t l.length)]) := by
  have h := l_markByteS l [] t QQ l.length (by unfold QQ; omega) rfl hl h0 (by omega)
  simp at h
  simp +contextual -implicitDefEqProofs [X_laws_markByteS, retK_eq, cutK_eq, h]
/-- A call that works on one block. -/
theorem rcall_one {X : List Value → Mem → Option VM} {m : Mem} {a n c : Nat} {rest : List Value} {l l' : List Int} {v : Value} (hm : m[a]? = some (ownB eU8 l)) (hrest : rest.all scal = true) (hv : scal v = true) (hX : X (.slice (some ⟨0, 0, none⟩) n c :: rest) [ownB eU8 l] = some (v, [ownB eU8 l'])) : rcall X (.slice (some ⟨a, 0, none⟩) n c :: rest) m = some (v, m.set a (ownB eU8 l')) := by
  have hnm : (Value.slice (some ⟨a, 0, none⟩) n c :: rest).flatMap (nmV 8) = [a] := by
    rw [List.flatMap_cons, nm_scal hrest]
    rfl
  have hrn : mapO (rnV 8 inert (ixOf [a])) (.slice (some ⟨a, 0, none⟩) n c :: rest) = some (.slice (some ⟨0, 0, none⟩) n c :: rest) := by
    have hr := rn_scal (j := 7) (π := ixOf [a]) (l := rest) (r := []) hrest
    rw [List.append_nil] at hr
    rw [mapO_cons, rn_inert_sl, ixOf_cons, if_pos rfl, bo_some, bo_some, hr]
    simp [mapO]
  have hre : reachF 4194304 m [a] [] = some [a] := by
    rw [reach_cons, if_neg (by simp), hm]
    simp only [nmB_own, List.append_nil, List.nil_append]
    rfl
  have hlo : locM m [a] [a] = some [ownB eU8 l] := by
    rw [locM_cons, hm]
    simp only [locB_own, bo_some]
    rfl
  rw [rcall_eq, hnm, hre, bo_some, hrn, bo_some, hlo, bo_some, hX, bo_some]
  simp only [List.length_singleton, Nat.le_refl, if_true]
  rw [rnV_scal hv, bo_some, mapB_cons, bkB_own, bo_some]
  simp
end Go.Ab
namespace Go.Ab
set_option linter.unusedSimpArgs false
set_option linter.unusedVariables false
set_option maxHeartbeats 8000000

/-! ## What the sizes say; equality -/
theorem szL_le (l : List Nat) : ∀ (x : Int), 0 ≤ szL l x → szL l x ≤ x ∧ ∀ n ∈ l, (n : Int) ≤ x := by
  induction l with
  | nil => intro x h; exact ⟨Int.le_refl _, by simp⟩
  | cons n r ih =>
    intro x h
    rw [szL] at h ⊢
    split at h
    · omega
    · rename_i hs
      rw [if_neg hs]
      obtain ⟨h1, h2⟩ := ih _ h
      have h3 : szN n x = x - n := by unfold szN at hs ⊢; split <;> simp_all
      refine ⟨by omega, fun k hk => ?_⟩
      rcases List.mem_cons.1 hk with rfl | hk
      · omega
      · have := h2 k hk
        omega
theorem l_eqByteS (r : List Int) : ∀ (p : List Int) (q : Nat), r.length < q → (p ++ r).length < 1000000000 → L_laws_eqByteS 0 q 0 [frS eU8 (p ++ r), frS eU8 (p ++ r), .int .i64 p.length] [] = some (.bool true, []) := by
  induction r with
  | nil =>
    intro p q hq hl
    obtain ⟨q, rfl⟩ : ∃ n, q = n + 1 := ⟨q - 1, by omega⟩
    simp +contextual -implicitDefEqProofs [L_laws_eqByteS, retK_eq]
  | cons x r ih =>
    intro p q hq hl
    obtain ⟨q, rfl⟩ : ∃ n, q = n + 1 := ⟨q - 1, by omega⟩
    have h := ih (p ++ [x]) q (by simp at hq; omega) (by simpa using hl)
    simp at h
    have hx := ixa_mid eU8 (sz := 1) rfl .i64 p x r
    have hw := wrap_next (n := p.length) (by simp at hl; omega)
    simp +contextual -implicitDefEqProofs [L_laws_eqByteS, retK_eq, cutK_eq, hx, hw, h]
theorem s_eqByteS (a : List Int) (ha : a.length < 1000000000) : X_laws_eqByteS [frS eU8 a, frS eU8 a] [] = some (.bool true, []) := by
  have h2 := l_eqByteS a [] QQ (by unfold QQ; omega) (by simpa using ha)
  simp at h2
  simp +contextual -implicitDefEqProofs [X_laws_eqByteS, cutK_eq, retK_eq, h2]
theorem l_heldByteS (n : Nat) : ∀ (p : List Int) (t : Int) (q : Nat), n < q → p.length + n < 1000000000 → 0 ≤ t → t + n ≤ 1000000000000 → L_laws_heldByteS 0 q 0 [frS eU8 (p ++ markB t n), .int .i64 t, .int .i64 p.length] [] = some (.int .i64 (t + n), []) := by
  induction n with
  | zero =>
    intro p t q hq hn h0 h1
    obtain ⟨q, rfl⟩ : ∃ n, q = n + 1 := ⟨q - 1, by omega⟩
    simp -implicitDefEqProofs [L_laws_heldByteS, retK_eq, markB]
  | succ n ih =>
    intro p t q hq hn h0 h1
    obtain ⟨q, rfl⟩ : ∃ n, q = n + 1 := ⟨q - 1, by omega⟩
    have h := ih (p ++ [IntKind.u8.wrap t]) (t + 1) q (by omega) (by simp; omega) (by omega) (by push_cast at h1; omega)
    simp at h
    have hx := ixa_mid eU8 (sz := 1) rfl .i64 p (IntKind.u8.wrap t) (markB (t + 1) n)
    have hw := wrap_next (n := p.length) (by omega)
    have hw2 := wrap_one h0 (by omega)
    have e : t + ((n : Int) + 1) = t + 1 + n := by omega
    simp +contextual -implicitDefEqProofs [L_laws_heldByteS, retK_eq, cutK_eq, hx, hw, hw2.1, h, markB, e]
theorem s_heldByteS (n : Nat) (t : Int) (hn : n < 1000000000) (h0 : 0 ≤ t) (h1 : t ≤ 100000000000) : X_laws_heldByteS [frS eU8 (markB t n), .int .i64 t] [] = some (.int .i64 (t + n), []) := by
  have h := l_heldByteS n [] t QQ (by unfold QQ; omega) (by simpa using hn) h0 (by omega)
  simp at h
  simp +contextual -implicitDefEqProofs [X_laws_heldByteS, retK_eq, cutK_eq, h]
end Go.Ab
namespace Go.Ab
set_option linter.unusedSimpArgs false
set_option linter.unusedVariables false
set_option maxHeartbeats 8000000

def markSS (t : Int) : List (List Int) → List (List Int)
  | [] => []
  | x :: r => markB t x.length :: markSS (t + x.length) r
def upSS (t : Int) : List (List Int) → Int
  | [] => t
  | x :: r => upSS (t + x.length) r
theorem markSS_len (t : Int) (l : List (List Int)) : (markSS t l).length = l.length := by
  induction l generalizing t with
  | nil => rfl
  | cons x r ih => rw [markSS, List.length_cons, List.length_cons, ih]
theorem upSS_le (t : Int) (l : List (List Int)) : t ≤ upSS t l := by
  induction l generalizing t with
  | nil => exact Int.le_refl _
  | cons x r ih =>
    have := ih (t + x.length)
    rw [upSS]
    omega
theorem cell_A (k : Nat) (p : List (List Int)) (x : List Int) (r : List (List Int)) : (famX k ((p ++ x :: r).map elS))[p.length]? = some (slO (k + p.length) x.length) := by
  rw [List.map_append, famX_app, elS_N, List.map_cons, famX_S]
  have hl := famX_Slen k p
  rw [List.getElem?_append_right (by omega), hl, Nat.sub_self]
  rfl
theorem blk_A (k : Nat) (p : List (List Int)) (x : List Int) (r : List (List Int)) : (memA k (p ++ x :: r))[p.length + 1]? = some (ownB eU8 x) := by
  have e : famM eU8 ((p ++ x :: r).map elS) = famM eU8 (p.map elS) ++ (ownB eU8 x :: famM eU8 (r.map elS)) := by
    rw [List.map_append, famM_app, show (x :: r).map elS = [x].map elS ++ r.map elS from rfl, famM_app, famM_S1]
    rfl
  show (famM eU8 ((p ++ x :: r).map elS))[p.length]? = _
  have hl : (famM eU8 (p.map elS)).length = p.length := by rw [famM_len, elS_N]
  rw [e, List.getElem?_append_right (by omega), hl, Nat.sub_self]
  rfl
theorem famX_same (k : Nat) : ∀ (a b : List (List Int)), a.map List.length = b.map List.length → famX k (a.map elS) = famX k (b.map elS) := by
  intro a
  induction a generalizing k with
  | nil =>
    intro b h
    cases b with
    | nil => rfl
    | cons y b => simp at h
  | cons x a ih =>
    intro b h
    cases b with
    | nil => simp at h
    | cons y b =>
      simp at h
      rw [List.map_cons, List.map_cons, famX_S, famX_S, h.1, ih (k + 1) b h.2]
theorem set_A (k : Nat) (p : List (List Int)) (x y : List Int) (r : List (List Int)) (h : y.length = x.length) : (memA k (p ++ x :: r)).set (p.length + 1) (ownB eU8 y) = memA k (p ++ y :: r) := by
  have e : ∀ x : List Int, famM eU8 ((p ++ x :: r).map elS) = famM eU8 (p.map elS) ++ (ownB eU8 x :: famM eU8 (r.map elS)) := fun x => by
    rw [List.map_append, famM_app, show (x :: r).map elS = [x].map elS ++ r.map elS from rfl, famM_app, famM_S1]
    rfl
  have hl : (famM eU8 (p.map elS)).length = p.length := by rw [famM_len, elS_N]
  have h1 : famX k ((p ++ y :: r).map elS) = famX k ((p ++ x :: r).map elS) := famX_same k _ _ (by simp [h])
  show famB k 1 ((p ++ x :: r).map elS) :: (famM eU8 ((p ++ x :: r).map elS)).set p.length (ownB eU8 y) = famB k 1 ((p ++ y :: r).map elS) :: famM eU8 ((p ++ y :: r).map elS)
  rw [e x, e y]
  unfold famB
  rw [h1, List.set_append_right _ _ (by omega), hl, Nat.sub_self]
  rfl
end Go.Ab
namespace Go.Ab
set_option linter.unusedSimpArgs false
set_option linter.unusedVariables false
set_option maxHeartbeats 8000000

theorem szL_up (l : List (List Int)) : ∀ (x t : Int), 0 ≤ szL (l.map List.length) x → upSS t l ≤ t + x - szL (l.map List.length) x := by
  induction l with
  | nil => intro x t h; simp [szL, upSS]
  | cons n r ih =>
    intro x t h
    rw [List.map_cons, szL] at h ⊢
    split at h
    · omega
    · rename_i hs
      rw [if_neg hs, upSS]
      have := ih _ (t + n.length) h
      have h3 : szN n.length x = x - n.length := by unfold szN at hs ⊢; split <;> simp_all
      omega
theorem l_eqByteSS (r : List (List Int)) : ∀ (p : List (List Int)) (q : Nat), r.length < q → (p ++ r).length < 1000000000 → (∀ x ∈ r, x.length < 1000000000) → L_laws_eqByteSS 0 q 0 [frS eBS (p ++ r), frS eBS (p ++ r), .int .i64 p.length] [] = some (.bool true, []) := by
  induction r with
  | nil =>
    intro p q hq hl hb
    obtain ⟨q, rfl⟩ : ∃ n, q = n + 1 := ⟨q - 1, by omega⟩
    simp +contextual -implicitDefEqProofs [L_laws_eqByteSS, retK_eq]
  | cons x r ih =>
    intro p q hq hl hb
    obtain ⟨q, rfl⟩ : ∃ n, q = n + 1 := ⟨q - 1, by omega⟩
    have h := ih (p ++ [x]) q (by simp at hq; omega) (by simpa using hl) (fun y hy => hb y (by simp [hy]))
    simp at h
    have hx := ixa_mid eBS (sz := 1) rfl .i64 p x r
    have hw := wrap_next (n := p.length) (by simp at hl; omega)
    have hc := s_eqByteS x (hb x (by simp))
    simp +contextual -implicitDefEqProofs [L_laws_eqByteSS, retK_eq, cutK_eq, hx, hw, hc, h]
theorem s_eqByteSS (a : List (List Int)) (ha : a.length < 1000000000) (hb : ∀ x ∈ a, x.length < 1000000000) : X_laws_eqByteSS [frS eBS a, frS eBS a] [] = some (.bool true, []) := by
  have h2 := l_eqByteSS a [] QQ (by unfold QQ; omega) (by simpa using ha) hb
  simp at h2
  simp +contextual -implicitDefEqProofs [X_laws_eqByteSS, cutK_eq, retK_eq, h2]
end Go.Ab
namespace Go.Ab
set_option linter.unusedSimpArgs false
set_option linter.unusedVariables false
set_option maxHeartbeats 8000000

theorem l_markByteSS (r : List (List Int)) : ∀ (p : List (List Int)) (t : Int) (q n : Nat), r.length < q → n = (p ++ r).length → n < 1100000 → (∀ x ∈ r, x.length < 1000000000) → 0 ≤ t → upSS t r ≤ 100000000000 → L_laws_markByteSS (n + 1) q 0 [slO 0 n, .int .i64 t, .int .i64 p.length] (memA 1 (p ++ r)) = some (.int .i64 (upSS t r), memA 1 (p ++ markSS t r)) := by
  induction r with
  | nil =>
    intro p t q n hq hn hl hb h0 h1
    obtain ⟨q, rfl⟩ : ∃ n, q = n + 1 := ⟨q - 1, by omega⟩
    have hn' : n = p.length := by simpa using hn
    subst hn'
    have hret := fun pv => retN_fam eU8 (k := p.length + 1) (s := 1) (es := p.map elS) (pv := pv) (v := .int .i64 t) rfl (by rw [elS_N]) (ok_A p) (by rw [elS_N]; omega)
    rw [List.append_nil, markSS, List.append_nil, upSS]
    generalize hM : memA 1 p = M
    have hret : ∀ pv, retK (p.length + 1) M pv (.int .i64 t) = some (.int .i64 t, M) := by rw [← hM]; exact hret
    simp -implicitDefEqProofs [L_laws_markByteSS, hret]
  | cons x r ih =>
    intro p t q n hq hn hl hb h0 h1
    obtain ⟨q, rfl⟩ : ∃ n, q = n + 1 := ⟨q - 1, by omega⟩
    have hn' : n = p.length + (r.length + 1) := by simpa using hn
    have hup := upSS_le (t + x.length) r
    rw [upSS] at h1
    have h := ih (p ++ [markB t x.length]) (t + x.length) q n (by simp at hq; omega) (by simpa using hn) hl (fun y hy => hb y (by simp [hy])) (by omega) h1
    have hw := wrap_next (n := p.length) (by omega)
    have hz := fun n' o cc => ixa_sl (sz := 1) .i64 (n := n') (o := o) (len := n) (c := cc) (j := (p.length : Int)) (by omega) (by omega)
    simp only [Int.toNat_natCast] at hz
    have hc := s_markByteS x t (hb x (by simp)) h0 (by omega)
    have hcell := cell_A 1 p x r
    have hr := rcall_one (blk_A 1 p x r) (rest := [.int .i64 t]) rfl (v := .int .i64 (t + x.length)) rfl hc
    rw [set_A 1 p x (markB t x.length) r (by simp)] at hr
    have hcut := fun pv J => cutN_fam eU8 (k := n + 1) (s := 1) (n := n) (c := n) (es := (p ++ markB t x.length :: r).map elS) (xs := []) (ys := [.int .i64 (t + x.length), .int .i64 ((p.length : Int) + 1)]) (pv := pv) (J := J) (by rw [elS_N, hn']; simp) rfl rfl (ok_A _) (by rw [elS_N]; simp; omega)
    simp only [List.nil_append] at hcut
    have e1 : p ++ [markB t x.length] ++ r = p ++ markB t x.length :: r := by simp
    have e2 : ((p ++ [markB t x.length]).length : Int) = p.length + 1 := by simp
    have e3 : p ++ [markB t x.length] ++ markSS (t + x.length) r = p ++ markB t x.length :: markSS (t + x.length) r := by simp
    rw [e1, e2, e3] at h
    rw [upSS, markSS]
    have hM0 : (memA 1 (p ++ x :: r))[0]? = some ⟨famX 1 ((p ++ x :: r).map elS), 1, true, true⟩ := rfl
    have hC : (famX 1 ((p ++ x :: r).map elS)).length = p.length + (r.length + 1) := by rw [famX_Slen]; simp
    have hcut : ∀ pv J, cutK (n + 1) (memA 1 (p ++ markB t x.length :: r)) pv [slO 0 n, .int .i64 (t + x.length), .int .i64 ((p.length : Int) + 1)] J = J [slO 0 n, .int .i64 (t + x.length), .int .i64 ((p.length : Int) + 1)] (memA 1 (p ++ markB t x.length :: r)) := hcut
    rw [Nat.add_comm p.length 1] at hr
    generalize memA 1 (p ++ markB t x.length :: r) = M2 at *
    generalize memA 1 (p ++ x :: r) = M at *
    generalize famX 1 ((p ++ x :: r).map elS) = C at *
    have g1 : (p.length : Int) < n := by omega
    have g2 : p.length + 1 ≤ C.length := by omega
    simp (maxSteps := 400000) -implicitDefEqProofs [-rcall_eq, L_laws_markByteSS, hw, hz, g1, g2, hM0, hcell, hr, hcut, h]
end Go.Ab
namespace Go.Ab
set_option linter.unusedSimpArgs false
set_option linter.unusedVariables false
set_option maxHeartbeats 8000000

theorem memA_len (k : Nat) (l : List (List Int)) : (memA k l).length = l.length + 1 := by
  show (famM eU8 (l.map elS)).length + 1 = _
  rw [famM_len, elS_N]
theorem s_markByteSS (l : List (List Int)) (t : Int) (hl : l.length < 1100000) (hb : ∀ x ∈ l, x.length < 1000000000) (h0 : 0 ≤ t) (h1 : upSS t l ≤ 100000000000) : X_laws_markByteSS [slO 0 l.length, .int .i64 t] (memA 1 l) = some (.int .i64 (upSS t l), memA 1 (markSS t l)) := by
  have h := l_markByteSS l [] t QQ l.length (by unfold QQ; omega) rfl hl hb h0 h1
  have hcut := fun pv J => cutN_fam eU8 (k := l.length + 1) (s := 1) (n := l.length) (c := l.length) (es := l.map elS) (xs := []) (ys := [.int .i64 t, .int .i64 0]) (pv := pv) (J := J) (by rw [elS_N]) rfl rfl (ok_A _) (by rw [elS_N]; omega)
  simp only [List.nil_append, List.length_nil, Int.natCast_zero] at h hcut
  have hcut : ∀ pv J, cutK (l.length + 1) (memA 1 l) pv [slO 0 l.length, .int .i64 t, .int .i64 0] J = J [slO 0 l.length, .int .i64 t, .int .i64 0] (memA 1 l) := hcut
  have hM := memA_len 1 l
  generalize memA 1 l = M at *
  simp (maxSteps := 400000) -implicitDefEqProofs [X_laws_markByteSS, hM, hcut, h]
theorem f_markByteSS (A B : Mem) (l : List (List Int)) (t : Int) (hl : l.length < 1100000) (hb : ∀ x ∈ l, x.length < 1000000000) (h0 : 0 ≤ t) (h1 : upSS t l ≤ 100000000000) : rcall X_laws_markByteSS [slO A.length l.length, .int .i64 t] (A ++ (famB (A.length + 1) 1 (l.map elS) :: (famM eU8 (l.map elS) ++ B))) = some (.int .i64 (upSS t l), A ++ (famB (A.length + 1) 1 ((markSS t l).map elS) :: (famM eU8 ((markSS t l).map elS) ++ B))) :=
  rcall_fam eU8 A B 1 l.length l.length (l.map elS) ((markSS t l).map elS) [.int .i64 t] (.int .i64 (upSS t l)) rfl rfl (ok_A l) (ok_A _) (by rw [elS_N, elS_N, markSS_len]) (by rw [elS_N]; omega) (s_markByteSS l t hl hb h0 h1)

/-! ## Events -/
end Go.Ab
namespace Go.Ab
set_option linter.unusedSimpArgs false
set_option linter.unusedVariables false
set_option maxHeartbeats 40000000

theorem rnh_slO (N K n : Nat) (h : 0 < K) : rnV 8 hard (sft N K) (slO 0 n) = some (slO N n) := by
  simp [h]
theorem szN_val {n : Nat} {x : Int} (h : ¬ szN n x < 0) : szN n x = x - n := by
  unfold szN at *
  split at h
  · omega
  · rename_i h1; rw [if_neg h1]
end Go.Ab
namespace Go.Ab
set_option linter.unusedSimpArgs false
set_option linter.unusedVariables false
set_option maxHeartbeats 40000000

/-! ## FnExactReadBy: the copies as things -/
theorem can_A (l : List (List Int)) (hl : l.length < 4000000) : Can (slO 0 l.length) (memA 1 l) := can_fam eU8 (ok_A l) (by rw [elS_N]; omega)
theorem hd_A (l : List (List Int)) : HdM (memA 1 l) := hd_fam eU8 eU8_hard (ok_A l) (okH_A l)
theorem fzc_A (l : List (List Int)) : fz 64 (memA 1 l) (slO 0 l.length) = some (frS eBS l) := by
  have := fz_A 61 l.length [] [] l
  simpa using this
theorem n_toByteSS (l : List (List Int)) (hl : l.length < 1100000) (hb : ∀ x ∈ l, x.length < 1000000000) (m : Mem) : ∃ k m', k = m.length ∧ fcall X_laws_toByteSS [frS eBS l] m = some (slO k l.length, m') ∧ m'.length = m.length + (memA 1 l).length ∧ (∀ n, n < m.length → m'[n]? = m[n]?) ∧ Has m' (slO k l.length) (List.range' k (memA 1 l).length) (slO 0 l.length) (memA 1 l) :=
  Has.new (fr := [frS eBS l]) (F := fun k => slO k l.length) rfl (by rw [s_toByteSS l hl hb, memS_0]) (can_A l (by omega)) (hd_A l) (fun N => rnh_slO N _ _ (by simp))
theorem f_szByteSS (l : List (List Int)) (left : Int) (hl : l.length ≤ 9223372036854775807) (hb : ∀ x ∈ l, x.length ≤ 9223372036854775807) (h0 : 0 ≤ left) (h1 : left ≤ 1048576) (m : Mem) : fcall X_laws_szByteSS [frS eBS l, .int .i64 left] m = some (.int .i64 (szSS l left), m) :=
  f_ask (mapO2 rfl rfl) (s_szByteSS l left hl hb h0 h1) rfl
theorem sumL_up (l : List (List Int)) : ∀ t : Int, upSS t l = t + sumL l := by
  induction l with
  | nil => intro t; simp [upSS, sumL]
  | cons x r ih => intro t; rw [upSS, ih, sumL]; push_cast; omega
theorem szSS_small {l : List (List Int)} {x : Int} (hx : x ≤ 1048576) (h : 0 ≤ szSS l x) : szSS l x ≤ x ∧ l.length ≤ 1048576 ∧ (∀ e ∈ l, e.length < 1000000000) ∧ sumL l < 100000000 := by
  unfold szSS at *
  have h0 : ¬ szN l.length x < 0 := fun c => by rw [if_pos c] at h; omega
  rw [if_neg h0] at h ⊢
  have h1 := szL_le _ _ h
  have h2 := szL_up l _ 1 h
  have h3 := szN_val h0
  rw [sumL_up] at h2
  refine ⟨by omega, by omega, fun e he => ?_, by omega⟩
  have := h1.2 e.length (List.mem_map.2 ⟨e, he, rfl⟩)
  omega
end Go.Ab
