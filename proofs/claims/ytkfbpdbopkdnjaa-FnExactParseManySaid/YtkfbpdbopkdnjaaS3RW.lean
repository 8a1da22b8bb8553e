/- What the functions of the program answer, for all arguments that the theorems name as conditions. -/
import Derived.Test.YtkfbpdbopkdnjaaS3RV
import Derived.Test.YtkfbpdbopkdnjaaFD
namespace Go.Ab
set_option linter.unusedSimpArgs false
set_option linter.unusedVariables false
set_option maxHeartbeats 4000000

/-! ## Lists of actions: the same, marked -/
instance : Inhabited ActT := ⟨⟨0, 0, 0, false, []⟩⟩
@[simp] theorem eAc_f (a : ActT) : eAc.f a = [.int .i64 a.k, .int .i64 a.c, .int .i64 a.s, .bool a.lead, frS eI6 a.ns] := (rfl)
@[simp] theorem eAc_sz : eAc.sz = 5 := (rfl)
theorem l_eqActionS (r : List ActT) : ∀ (p : List ActT) (q : Nat), r.length < q → (p ++ r).length < 1000000000 → (∀ x ∈ r, x.ns.length < 1000000000) → L_laws_eqActionS 0 q 0 [frS eAc (p ++ r), frS eAc (p ++ r), .int .i64 p.length] [] = some (.bool true, []) := by
  induction r with
  | nil =>
    intro p q hq hl hb
    obtain ⟨q, rfl⟩ : ∃ n, q = n + 1 := ⟨q - 1, by omega⟩
    simp -implicitDefEqProofs [L_laws_eqActionS, retK_eq]
  | cons x r ih =>
    intro p q hq hl hb
    obtain ⟨q, rfl⟩ : ∃ n, q = n + 1 := ⟨q - 1, by omega⟩
    have h := ih (p ++ [x]) q (by simp at hq; omega) (by simpa using hl) (fun y hy => hb y (by simp [hy]))
    simp at h
    have hx := ixa_mid eAc (sz := 5) rfl .i64 p x r
    have hw := wrap_next (n := p.length) (by simp at hl; omega)
    have he := s_eqAction x (hb x (by simp))
    simp -implicitDefEqProofs [L_laws_eqActionS, retK_eq, cutK_eq, hx, hw, he, h]
theorem s_eqActionS (a : List ActT) (ha : a.length < 1000000000) (hb : ∀ x ∈ a, x.ns.length < 1000000000) : X_laws_eqActionS [frS eAc a, frS eAc a] [] = some (.bool true, []) := by
  have h := l_eqActionS a [] QQ (by unfold QQ; omega) (by simpa using ha) hb
  simp at h
  simp -implicitDefEqProofs [X_laws_eqActionS, retK_eq, cutK_eq, h]
theorem s_eqActionsResult (c : Int) (a : List ActT) (p : ParT) (ha : a.length < 1000000000) (hb : ∀ x ∈ a, x.ns.length < 1000000000) (hp : p.ns.length < 1000000000) : X_laws_eqActionsResult [arV c a p, arV c a p] [] = some (.bool true, []) := by
  have h := s_eqActionS a ha hb
  have h2 := s_eqParser p hp
  simp -implicitDefEqProofs [X_laws_eqActionsResult, retK_eq, h, h2]
def markAL (t : Int) : List ActT → List ActT
  | [] => []
  | a :: r => markA t a :: markAL (upA t a) r
def upAL (t : Int) : List ActT → Int
  | [] => t
  | a :: r => upAL (upA t a) r
theorem markAS_fst (t : Int) (l : List (ActT × Bool)) : (markAS t l).map Prod.fst = markAL t (l.map Prod.fst) := by
  induction l generalizing t with
  | nil => rfl
  | cons x r ih => rw [markAS, List.map_cons, ih, List.map_cons, markAL]
theorem upAS_fst (t : Int) (l : List (ActT × Bool)) : upAS t l = upAL t (l.map Prod.fst) := by
  induction l generalizing t with
  | nil => rfl
  | cons x r ih => rw [upAS, ih, List.map_cons, upAL]
theorem upAL_le (t : Int) (l : List ActT) : t ≤ upAL t l := by
  induction l generalizing t with
  | nil => exact Int.le_refl _
  | cons x r ih =>
    have := ih (upA t x)
    rw [upAL]
    unfold upA at *
    omega
theorem l_heldActionS (l : List ActT) : ∀ (p : List ActT) (t : Int) (q : Nat), l.length < q → (p ++ l).length < 1100000 → (∀ x ∈ l, x.ns.length < 1000000000) → 0 ≤ t → upAL t l ≤ 100000000000 → L_laws_heldActionS 0 q 0 [frS eAc (p ++ markAL t l), .int .i64 t, .int .i64 p.length] [] = some (.int .i64 (upAL t l), []) := by
  induction l with
  | nil =>
    intro p t q hq hn hb h0 h1
    obtain ⟨q, rfl⟩ : ∃ n, q = n + 1 := ⟨q - 1, by omega⟩
    simp -implicitDefEqProofs [L_laws_heldActionS, retK_eq, markAL, upAL]
  | cons x r ih =>
    intro p t q hq hn hb h0 h1
    obtain ⟨q, rfl⟩ : ∃ n, q = n + 1 := ⟨q - 1, by omega⟩
    have hup := upAL_le (upA t x) r
    rw [upAL] at h1
    have hub : t + 1 + 1 + 1 + 1 + x.ns.length ≤ 100000000000 := by unfold upA at *; omega
    have h := ih (p ++ [markA t x]) (upA t x) q (by simp at hq; omega) (by simpa using hn) (fun y hy => hb y (by simp [hy])) (by unfold upA; omega) h1
    have e1 : p ++ [markA t x] ++ markAL (upA t x) r = p ++ markA t x :: markAL (upA t x) r := by simp
    have e2 : ((p ++ [markA t x]).length : Int) = p.length + 1 := by simp
    rw [e1, e2] at h
    rw [upAL, markAL]
    have hx := ixa_mid eAc (sz := 5) rfl .i64 p (markA t x) (markAL (upA t x) r)
    have hw := wrap_next (n := p.length) (by simp at hn; omega)
    have hc := s_heldInt64S x.ns.length (t + 1 + 1 + 1 + 1) (hb x (by simp)) (by omega) (by omega)
    have u1 : IntKind.i64.wrap (t + 1) = t + 1 := wrap_i64 (by omega) (by omega)
    have u2 : IntKind.i64.wrap (t + 1 + 1) = t + 1 + 1 := wrap_i64 (by omega) (by omega)
    have u3 : IntKind.i64.wrap (t + 1 + 1 + 1) = t + 1 + 1 + 1 := wrap_i64 (by omega) (by omega)
    have u4 : IntKind.i64.wrap (t + 1 + 1 + 1 + 1) = t + 1 + 1 + 1 + 1 := wrap_i64 (by omega) (by omega)
    have eM : eAc.f (markA t x) = [.int .i64 t, .int .i64 (t + 1), .int .i64 (t + 1 + 1), .bool ((t + 1 + 1 + 1).tmod 3 == 0), frS eI6 (markI (t + 1 + 1 + 1 + 1) x.ns.length)] := rfl
    rw [eM] at hx
    unfold upA at *
    generalize hT : t + 1 + 1 + 1 + 1 + (x.ns.length : Int) = T at *
    have v0 : ¬ T < 0 := by omega
    simp (maxSteps := 400000) -implicitDefEqProofs [L_laws_heldActionS, retK_eq, cutK_eq, hx, hw, hc, hT, u1, u2, u3, u4, v0, h]
theorem s_heldActionsResult (c : Int) (l : List ActT) (p : ParT) (n : Nat) (hl : l.length < 1100000) (hb : ∀ x ∈ l, x.ns.length < 1000000000) (hp : n < 1000000) (h1 : upAL 1 l ≤ 1000000000) : X_laws_heldActionsResult [arV c (markAL 1 l) ⟨p.k, p.s, p.lead, markI (upAL 1 l) n⟩, .int .i64 1] [] = some (.int .i64 (upAL 1 l + n), []) := by
  have h := l_heldActionS l [] 1 QQ (by unfold QQ; omega) (by simpa using hl) hb (by omega) (by omega)
  simp only [List.nil_append, List.length_nil, Int.natCast_zero] at h
  have h2 := s_heldParser ⟨p.k, p.s, p.lead, markI (upAL 1 l) n⟩ (upAL 1 l) n rfl (by omega) (by have := upAL_le 1 l; omega) (by omega)
  have hx : X_laws_heldActionS [frS eAc (markAL 1 l), .int .i64 1] [] = some (.int .i64 (upAL 1 l), []) := by
    simp -implicitDefEqProofs [X_laws_heldActionS, retK_eq, cutK_eq, h]
  have hup := upAL_le 1 l
  have v1 : ¬ upAL 1 l < 0 := by omega
  have v2 : ¬ upAL 1 l + (n : Int) < 0 := by omega
  simp -implicitDefEqProofs [X_laws_heldActionsResult, retK_eq, hx, h2, v1, v2]
/-! ### Copies and marks of the arguments -/
theorem can_par (p : ParT) : Can (parO p 0) [ownB eI6 p.ns] := ⟨by simp, by simp, by simp⟩
theorem fzc_par (p : ParT) : fz 64 [ownB eI6 p.ns] (parO p 0) = some (parV p) := by simp
theorem rnh_par (p : ParT) (N : Nat) : rnV 8 hard (sft N 1) (parO p 0) = some (parO p N) := by simp
theorem fz_par (p : ParT) (m : Mem) : fz 64 m (parV p) = some (parV p) := by simp
theorem n_toParser (p : ParT) (hp : p.ns.length < 1000000000) (m : Mem) : ∃ k m', k = m.length ∧ fcall X_laws_toParser [parV p] m = some (parO p k, m') ∧ m'.length = m.length + [ownB eI6 p.ns].length ∧ (∀ n, n < m.length → m'[n]? = m[n]?) ∧ Has m' (parO p k) (List.range' k [ownB eI6 p.ns].length) (parO p 0) [ownB eI6 p.ns] :=
  Has.new (fr := [parV p]) (F := fun k => parO p k) (mapO1 (fz_par p m)) (s_toParser p hp) (can_par p) (hd_own eI6 eI6_hard _) (fun N => rnh_par p N)
theorem n_toInt64S (l : List Int) (hl : l.length < 1000000000) (m : Mem) : ∃ k m', k = m.length ∧ fcall X_laws_toInt64S [frS eI6 l] m = some (slO k l.length, m') ∧ m'.length = m.length + [ownB eI6 l].length ∧ (∀ n, n < m.length → m'[n]? = m[n]?) ∧ Has m' (slO k l.length) (List.range' k [ownB eI6 l].length) (slO 0 l.length) [ownB eI6 l] :=
  Has.new (fr := [frS eI6 l]) (F := fun k => slO k l.length) (mapO1 (fz_frS eI6 63 m l)) (s_toInt64S l hl) (can_own eI6 l) (hd_own eI6 eI6_hard _) (fun N => by simp)
theorem s_markParserO (p : ParT) (hl : p.ns.length < 1000000000) : X_laws_markParser [parO p 0, .int .i64 1] [ownB eI6 p.ns] = some (.int .i64 (1 + p.ns.length), [ownB eI6 (markI 1 p.ns.length)]) := by
  obtain ⟨m', g1, g2⟩ := s_markParser p (slO 0 p.ns.length) [ownB eI6 p.ns] 1 (.inr ⟨rfl, rfl⟩) hl (by omega) (by omega)
  rcases g1 with ⟨_, _, h | h⟩ | ⟨_, h⟩
  · cases h
  · cases h
  · rw [h] at g2
    exact g2
end Go.Ab
