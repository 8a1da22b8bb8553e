/- What the functions of the program answer, for all arguments that the theorems name as conditions. -/
import Derived.Test.YtkfbpdbopkdnjaaS3B3z
namespace Go.Ab
set_option linter.unusedSimpArgs false
set_option linter.unusedVariables false
set_option maxHeartbeats 8000000

/-! ## Holds and keyboards -/
structure HdT where
  k : Int
  b : Int
deriving Inhabited, DecidableEq
def eHd : Enc HdT := ⟨2, fun x => [.int .i64 x.k, .int .i64 x.b], by decide, fun _ => rfl, fun _ => rfl⟩
@[simp] theorem eHd_f (x : HdT) : eHd.f x = [.int .i64 x.k, .int .i64 x.b] := (rfl)
@[simp] theorem eHd_sz : eHd.sz = 2 := (rfl)
theorem eHd_hard : eHd.Hard := fun _ => rfl
abbrev hdV (x : HdT) : Value := .agg #[.int .i64 x.k, .int .i64 x.b]
structure KbT where
  hs : List HdT
  cap : Bool
  acc : Int
abbrev kbW (p : KbT) (v : Value) : Value := .agg #[v, .bool p.cap, .int .i64 p.acc]
abbrev kbV (p : KbT) : Value := kbW p (frS eHd p.hs)
abbrev kbO (p : KbT) (n : Nat) : Value := kbW p (slO n p.hs.length)
@[simp] theorem shB_eHd (N k : Nat) (l : List HdT) : shB N k (ownB eHd l) = some (ownB eHd l) := shB_own eHd eHd_hard N k l
@[simp] theorem lay_eHd (p zs : List HdT) (z : HdT) (a b : Int) : lay (cellsE eHd (p ++ z :: zs)) (p.length * 2) [.int .i64 a, .int .i64 b] = cellsE eHd (p ++ ⟨a, b⟩ :: zs) := lay_mid eHd p z zs ⟨a, b⟩
@[simp] theorem lay_eHd1 (p zs : List HdT) (z : HdT) (a : Int) : lay (cellsE eHd (p ++ z :: zs)) (p.length * 2) [.int .i64 a] = cellsE eHd (p ++ ⟨a, z.b⟩ :: zs) := by
  have := lay_skip eHd p (z :: zs) 0 [.int .i64 a]
  rw [Nat.add_zero] at this
  exact this.trans (by rw [cellsE_append]; rfl)
@[simp] theorem lay_eHd2 (p zs : List HdT) (z : HdT) (a : Int) : lay (cellsE eHd (p ++ z :: zs)) (p.length * 2 + 1) [.int .i64 a] = cellsE eHd (p ++ ⟨z.k, a⟩ :: zs) := by
  have := lay_skip eHd p (z :: zs) 1 [.int .i64 a]
  exact this.trans (by rw [cellsE_append, cellsE_cons, cellsE_cons, eHd_f, eHd_f]; simp [lay, lay_nil])
@[simp] theorem flat_eHd (n : Nat) : (List.replicate n [Value.int .i64 0, Value.int .i64 0]).flatten = cellsE eHd (List.replicate n ⟨0, 0⟩) := flat_rep eHd n ⟨0, 0⟩

/-! ## The laws' helpers over keyboards -/
theorem s_szHoldS (l : List HdT) (left : Int) (hl : l.length ≤ 9223372036854775807) (h0 : 0 ≤ left) (h1 : left ≤ 1048576) : X_laws_szHoldS [frS eHd l, .int .i64 left] [] = some (.int .i64 (szN l.length left), []) := by
  have hw : IntKind.i64.wrap (left - l.length) = left - l.length := wrap_i64 (by omega) (by omega)
  simp +contextual -implicitDefEqProofs [X_laws_szHoldS, retK_eq, hw]
  unfold szN
  split <;> rfl
def szK (p : KbT) (left : Int) : Int := szN p.hs.length left
theorem s_szKeyboard (p : KbT) (left : Int) (hp : p.hs.length ≤ 9223372036854775807) (h0 : 0 ≤ left) (h1 : left ≤ 1048576) : X_laws_szKeyboard [kbV p, .int .i64 left] [] = some (.int .i64 (szK p left), []) := by
  have c1 := s_szHoldS p.hs left hp h0 h1
  have : szN p.hs.length left < 0 → szN p.hs.length left = -1 := by unfold szN; split <;> omega
  by_cases h : szN p.hs.length left < 0 <;> simp +contextual -implicitDefEqProofs [X_laws_szKeyboard, retK_eq, c1, h, szK, this]
theorem s_toHold (x : HdT) : X_laws_toHold [hdV x] [] = some (hdV x, []) := by
  simp +contextual -implicitDefEqProofs [X_laws_toHold, retK_eq]
theorem l_toHoldS (r : List HdT) : ∀ (p : List HdT) (q n : Nat), r.length < q → n = (p ++ r).length → n < 1000000000 → L_laws_toHoldS 0 q 0 [frS eHd (p ++ r), .slice (some ⟨0, 0, none⟩) n n, .int .i64 p.length] [ownB eHd (p ++ List.replicate r.length ⟨0, 0⟩)] = some (.slice (some ⟨0, 0, none⟩) n n, [ownB eHd (p ++ r)]) := by
  induction r with
  | nil =>
    intro p q n hq hn hl
    obtain ⟨q, rfl⟩ : ∃ n, q = n + 1 := ⟨q - 1, by omega⟩
    simp -implicitDefEqProofs [L_laws_toHoldS, retK_eq]
  | cons x r ih =>
    intro p q n hq hn hl
    obtain ⟨q, rfl⟩ : ∃ n, q = n + 1 := ⟨q - 1, by omega⟩
    have h := ih (p ++ [x]) q n (by simp at hq; omega) (by simpa using hn) hl
    simp at h
    have hx := ixa_mid eHd (sz := 2) rfl .i64 p x r
    have hw := wrap_next (n := p.length) (by simp at hn; omega)
    have hn' : n = p.length + (r.length + 1) := by simpa using hn
    subst hn'
    simp +contextual -implicitDefEqProofs [L_laws_toHoldS, retK_eq, cutK_eq, hx, hw, h, s_toHold, List.replicate_succ]
    omega
theorem s_toHoldS (l : List HdT) (hl : l.length < 1000000000) : X_laws_toHoldS [frS eHd l] [] = some (slO 0 l.length, [ownB eHd l]) := by
  have h := l_toHoldS l [] QQ l.length (by unfold QQ; omega) rfl hl
  simp at h
  simp +contextual -implicitDefEqProofs [X_laws_toHoldS, cutK_eq, retK_eq, h, hl]
theorem s_toKeyboard (p : KbT) (hp : p.hs.length < 1000000000) : X_laws_toKeyboard [kbV p] [] = some (kbO p 0, [ownB eHd p.hs]) := by
  have h := s_toHoldS p.hs hp
  simp +contextual -implicitDefEqProofs [X_laws_toKeyboard, retK_eq, h]
theorem s_eqHold (x : HdT) : X_laws_eqHold [hdV x, hdV x] [] = some (.bool true, []) := by
  simp +contextual -implicitDefEqProofs [X_laws_eqHold, retK_eq]
theorem l_eqHoldS (r : List HdT) : ∀ (p : List HdT) (q : Nat), r.length < q → (p ++ r).length < 1000000000 → L_laws_eqHoldS 0 q 0 [frS eHd (p ++ r), frS eHd (p ++ r), .int .i64 p.length] [] = some (.bool true, []) := by
  induction r with
  | nil =>
    intro p q hq hl
    obtain ⟨q, rfl⟩ : ∃ n, q = n + 1 := ⟨q - 1, by omega⟩
    simp +contextual -implicitDefEqProofs [L_laws_eqHoldS, retK_eq]
  | cons x r ih =>
    intro p q hq hl
    obtain ⟨q, rfl⟩ : ∃ n, q = n + 1 := ⟨q - 1, by omega⟩
    have h := ih (p ++ [x]) q (by simp at hq; omega) (by simpa using hl)
    simp at h
    have hx := ixa_mid eHd (sz := 2) rfl .i64 p x r
    have hw := wrap_next (n := p.length) (by simp at hl; omega)
    simp +contextual -implicitDefEqProofs [L_laws_eqHoldS, retK_eq, cutK_eq, hx, hw, h, s_eqHold]
theorem s_eqHoldS (a : List HdT) (ha : a.length < 1000000000) : X_laws_eqHoldS [frS eHd a, frS eHd a] [] = some (.bool true, []) := by
  have h2 := l_eqHoldS a [] QQ (by unfold QQ; omega) (by simpa using ha)
  simp at h2
  simp +contextual -implicitDefEqProofs [X_laws_eqHoldS, cutK_eq, retK_eq, h2]
theorem s_eqKeyboard (p : KbT) (hp : p.hs.length < 1000000000) : X_laws_eqKeyboard [kbV p, kbV p] [] = some (.bool true, []) := by
  have h := s_eqHoldS p.hs hp
  simp +contextual -implicitDefEqProofs [X_laws_eqKeyboard, retK_eq, h]
end Go.Ab
