/- Functions over values that stand for Go code, and the proof that the evaluator runs as they say. -/
import Derived.Test.YtcfjcghbinnngaaFC
set_option linter.unusedVariables false
set_option linter.unusedSimpArgs false
namespace Go.Ab
inductive Pc (α : Type) where
  | no (v : Value)
  | ow (pre l post : List α) (o c : Nat)
def Pc.val {α : Type} (k : Nat) : Pc α → Value
  | .no v => v
  | .ow _ l _ o c => .slice (some ⟨k, o, none⟩) l.length c
def Pc.con {α : Type} : Pc α → List α
  | .no _ => []
  | .ow _ l _ _ _ => l
def Pc.n {α : Type} : Pc α → Nat
  | .no _ => 0
  | .ow _ _ _ _ _ => 1
def Pc.mem {α : Type} (E : Enc α) : Pc α → Mem
  | .no _ => []
  | .ow pre l post _ _ => [ownB E (pre ++ (l ++ post))]
def Pc.ok {α : Type} (E : Enc α) : Pc α → Prop
  | .no v => v = .slice none 0 0 ∨ v = roS 0 []
  | .ow pre l _ o _ => l ≠ [] → o = pre.length * E.sz
structure El (α : Type) where
  a : List Value
  p : Pc α
  b : List Value
def El.ok {α : Type} (E : Enc α) (e : El α) : Prop := e.a.all scal = true ∧ e.b.all scal = true ∧ e.p.ok E
def famX {α : Type} : Nat → List (El α) → List Value
  | _, [] => []
  | k, e :: r => e.a ++ (e.p.val k :: (e.b ++ famX (k + e.p.n) r))
def famN {α : Type} : List (El α) → Nat
  | [] => 0
  | e :: r => e.p.n + famN r
def famM {α : Type} (E : Enc α) : List (El α) → Mem
  | [] => []
  | e :: r => e.p.mem E ++ famM E r
section
variable {α : Type} (E : Enc α)
theorem Pc.mem_len (p : Pc α) : (p.mem E).length = p.n := by cases p <;> rfl
@[simp] theorem famM_len : ∀ es : List (El α), (famM E es).length = famN es
  | [] => rfl
  | e :: r => by rw [famM, famN, List.length_append, Pc.mem_len, famM_len r]
theorem famX_app : ∀ (es fs : List (El α)) (k : Nat), famX k (es ++ fs) = famX k es ++ famX (k + famN es) fs
  | [], fs, k => by simp [famX, famN]
  | e :: r, fs, k => by
    rw [List.cons_append, famX, famX, famN, famX_app r fs, Nat.add_assoc]
    simp
theorem famN_app : ∀ (es fs : List (El α)), famN (es ++ fs) = famN es + famN fs
  | [], fs => by simp [famN]
  | e :: r, fs => by rw [List.cons_append, famN, famN, famN_app r fs, Nat.add_assoc]
theorem famM_app : ∀ (es fs : List (El α)), famM E (es ++ fs) = famM E es ++ famM E fs
  | [], fs => by simp [famM]
  | e :: r, fs => by rw [List.cons_append, famM, famM, famM_app r fs, List.append_assoc]
theorem nmV_scal {k : Nat} {v : Value} (h : scal v = true) : nmV (k + 1) v = [] := by cases v <;> simp [scal] at h <;> rfl
theorem nm_scal {k : Nat} : ∀ {l : List Value}, l.all scal = true → l.flatMap (nmV (k + 1)) = []
  | [], _ => rfl
  | v :: l, h => by
    rw [List.all_cons, Bool.and_eq_true] at h
    rw [List.flatMap_cons, nmV_scal h.1, nm_scal h.2]
    rfl
theorem Pc.nm {k j : Nat} (p : Pc α) (h : p.ok E) : nmV (j + 1) (p.val k) = List.range' k p.n := by
  cases p with
  | no v =>
    rcases h with rfl | rfl <;> rfl
  | ow pre l post o c => rfl
theorem Pc.val_inert {k : Nat} (p : Pc α) (h : inert (p.val k) = true) : p.n = 0 := by
  cases p with
  | no v => rfl
  | ow pre l post o c => simp [Pc.val] at h
theorem fam_inert : ∀ (es : List (El α)) (k : Nat), (famX k es).all inert = true → famN es = 0
  | [], k, _ => rfl
  | e :: r, k, h => by
    rw [famX, List.all_append, List.all_cons, List.all_append] at h
    simp only [Bool.and_eq_true] at h
    rw [famN, Pc.val_inert _ h.2.1, fam_inert r _ h.2.2.2]
theorem famX_zero : ∀ (es : List (El α)) (k k' : Nat), famN es = 0 → famX k es = famX k' es
  | [], k, k', _ => rfl
  | e :: r, k, k', h => by
    rw [famN] at h
    have h1 : e.p.n = 0 := by omega
    rw [famX, famX, h1, famX_zero r (k + 0) (k' + 0) (by omega)]
    cases hp : e.p with
    | no v => rfl
    | ow pre l post o c => rw [hp] at h1; cases h1
theorem rnV_scal {j : Nat} {π : Nat → Option Nat} {v : Value} (h : scal v = true) : rnV (j + 1) inert π v = some v := rnV_p (scal_inert v h)
theorem rn_scal {j : Nat} {π : Nat → Option Nat} : ∀ {l r : List Value}, l.all scal = true → mapO (rnV (j + 1) inert π) (l ++ r) = bo (fun ys => some (l ++ ys)) (mapO (rnV (j + 1) inert π) r)
  | [], r, _ => by
    rw [List.nil_append]
    cases h : mapO (rnV (j + 1) inert π) r <;> simp
  | v :: l, r, h => by
    rw [List.all_cons, Bool.and_eq_true] at h
    rw [List.cons_append, mapO_cons, rnV_scal h.1, bo_some, rn_scal h.2]
    cases mapO (rnV (j + 1) inert π) r <;> rfl
theorem Pc.rn {j : Nat} {π : Nat → Option Nat} (p : Pc α) (h : p.ok E) (k k' : Nat) (hπ : ∀ i, i < p.n → π (k + i) = some (k' + i)) : rnV (j + 1) inert π (p.val k) = some (p.val k') := by
  cases p with
  | no v =>
    rcases h with rfl | rfl <;> rfl
  | ow pre l post o c =>
    have := hπ 0 (by show 0 < 1; omega)
    rw [Nat.add_zero, Nat.add_zero] at this
    show rnV (j + 1) inert π (.slice (some ⟨k, o, none⟩) l.length c) = _
    rw [rn_inert_sl, this]
    rfl
theorem fam_rn {j : Nat} {π : Nat → Option Nat} : ∀ (es : List (El α)) (k k' : Nat), (∀ e ∈ es, e.ok E) → (∀ i, i < famN es → π (k + i) = some (k' + i)) → mapO (rnV (j + 1) inert π) (famX k es) = some (famX k' es)
  | [], k, k', _, _ => rfl
  | e :: r, k, k', h, hπ => by
    obtain ⟨h1, h2, h3⟩ := h e (by simp)
    rw [famN] at hπ
    have hr := fam_rn (j := j) (π := π) r (k + e.p.n) (k' + e.p.n) (fun x hx => h x (by simp [hx])) (fun i hi => by have := hπ (e.p.n + i) (by omega); rwa [← Nat.add_assoc, ← Nat.add_assoc] at this)
    rw [famX, famX, rn_scal h1, mapO_cons, Pc.rn E e.p h3 k k' (fun i hi => hπ i (by omega)), bo_some, rn_scal h2, hr]
    rfl
def Owns (m : Mem) (b n : Nat) : Prop := ∀ i, i < n → ∃ l : List α, m[b + i]? = some (ownB E l)
theorem fam_owns : ∀ (es : List (El α)) (P Q : Mem), Owns E (P ++ (famM E es ++ Q)) P.length (famN es)
  | [], P, Q, i, h => by rw [famN] at h; omega
  | e :: r, P, Q, i, h => by
    rw [famN] at h
    rw [famM]
    cases hp : e.p with
    | no v =>
      have := fam_owns r P Q i (by rw [hp, Pc.n] at h; omega)
      exact this
    | ow pre l post o c =>
      rw [hp, Pc.n] at h
      have := fam_owns r (P ++ [ownB E (pre ++ (l ++ post))]) Q
      rw [List.append_assoc, List.length_append] at this
      cases i with
      | zero => exact ⟨pre ++ (l ++ post), by simp [Pc.mem]⟩
      | succ i =>
        obtain ⟨l', hl⟩ := this i (by omega)
        refine ⟨l', ?_⟩
        rw [← hl]
        simp [Pc.mem]
        congr 1
        omega
theorem fam_ent : ∀ (es : List (El α)) (P Q : Mem) (i : Nat), i < (famM E es).length → (P ++ (famM E es ++ Q))[P.length + i]? = (famM E es)[i]? ∧ ∃ l : List α, (famM E es)[i]? = some (ownB E l) := by
  intro es P Q i hi
  have e : (P ++ (famM E es ++ Q))[P.length + i]? = (famM E es)[i]? := by
    rw [List.getElem?_append_right (by omega), Nat.add_sub_cancel_left, List.getElem?_append_left hi]
  obtain ⟨l, hl⟩ := fam_owns E es P Q i (by rwa [famM_len] at hi)
  exact ⟨e, l, by rw [← e, hl]⟩
end
end Go.Ab
namespace Go.Ab
set_option linter.unusedSimpArgs false
set_option linter.unusedVariables false
def famB {α : Type} (k s : Nat) (es : List (El α)) : Blk := ⟨famX k es, s, true, true⟩
section
variable {α : Type} (E : Enc α)
theorem fam_ent0 (es : List (El α)) (i : Nat) (hi : i < (famM E es).length) : ∃ l : List α, (famM E es)[i]? = some (ownB E l) := by
  have := (fam_ent E es [] [] i hi).2
  exact this
end
end Go.Ab
namespace Go.Ab
set_option linter.unusedSimpArgs false
set_option linter.unusedVariables false
section
variable {α : Type} (E : Enc α)
def El.fro (e : El α) : List Value := e.a ++ (frS E e.p.con :: e.b)
theorem fz_scals {k : Nat} {m : Mem} : ∀ {l r : List Value}, l.all scal = true → mapO (fz (k + 1) m) (l ++ r) = bo (fun ys => some (l ++ ys)) (mapO (fz (k + 1) m) r)
  | [], r, _ => by
    rw [List.nil_append]
    cases h : mapO (fz (k + 1) m) r <;> simp
  | v :: l, r, h => by
    rw [List.all_cons, Bool.and_eq_true] at h
    have hv : fz (k + 1) m v = some v := by
      have := h.1
      cases v <;> simp [scal] at this <;> rfl
    rw [List.cons_append, mapO_cons, hv, bo_some, fz_scals h.2]
    cases mapO (fz (k + 1) m) r <;> rfl
theorem Pc.fz {k : Nat} (p : Pc α) (h : p.ok E) (P Q : Mem) : fz (k + 2) (P ++ (p.mem E ++ Q)) (p.val P.length) = some (frS E p.con) := by
  cases p with
  | no v => rcases h with rfl | rfl <;> rfl
  | ow pre l post o c =>
    have hm : (P ++ ((Pc.ow pre l post o c).mem E ++ Q))[P.length]? = some (ownB E (pre ++ (l ++ post))) := by simp [Pc.mem]
    show Go.Ab.fz (k + 2) _ (.slice (some ⟨P.length, o, none⟩) l.length c) = some (frS E l)
    rw [fz_slO, hm]
    by_cases hl : l = []
    · subst hl
      rfl
    · rw [fzO_part E k _ (a := pre.length) (h hl) (by simp)]
      simp
theorem fz_fam {k : Nat} : ∀ (es : List (El α)) (P Q : Mem), (∀ e ∈ es, e.ok E) → mapO (fz (k + 2) (P ++ (famM E es ++ Q))) (famX P.length es) = some (es.flatMap (El.fro E))
  | [], P, Q, _ => rfl
  | e :: r, P, Q, h => by
    obtain ⟨h1, h2, h3⟩ := h e (by simp)
    have hr := fz_fam (k := k) r (P ++ e.p.mem E) Q (fun x hx => h x (by simp [hx]))
    rw [List.length_append, Pc.mem_len, List.append_assoc] at hr
    have hp := Pc.fz E (k := k) e.p h3 P (famM E r ++ Q)
    rw [famX, famM, List.append_assoc, fz_scals h1, mapO_cons, hp, bo_some, fz_scals h2, hr]
    simp [El.fro]
theorem famX_len {s : Nat} : ∀ (es : List (El α)) (k : Nat), (∀ e ∈ es, e.a.length + 1 + e.b.length = s) → (famX k es).length = es.length * s
  | [], k, _ => by simp [famX]
  | e :: r, k, h => by
    have := h e (by simp)
    rw [famX, List.length_append, List.length_cons, List.length_append, famX_len r _ (fun x hx => h x (by simp [hx])), List.length_cons, Nat.add_mul]
    omega
theorem fz_all {k s c : Nat} (A B : Mem) (es : List (El α)) (hok : ∀ e ∈ es, e.ok E) (hs : ∀ e ∈ es, e.a.length + 1 + e.b.length = s) : fz (k + 3) (A ++ (famB (A.length + 1) s es :: (famM E es ++ B))) (.slice (some ⟨A.length, 0, none⟩) es.length c) = some (roS es.length (es.flatMap (El.fro E))) := by
  have h1 : (A ++ (famB (A.length + 1) s es :: (famM E es ++ B)))[A.length]? = some (famB (A.length + 1) s es) := by simp
  rw [fz_slO, h1]
  unfold fzO
  split
  · rename_i h0
    obtain rfl : es = [] := List.eq_nil_of_length_eq_zero h0
    rfl
  · rename_i h0
    have hl : (famB (A.length + 1) s es).cells.length = es.length * s := famX_len es _ hs
    have hr : fzO.rdB (famB (A.length + 1) s es) 0 (es.length * (famB (A.length + 1) s es).es) = some (famX (A.length + 1) es) := by
      show fzO.rdB (famB (A.length + 1) s es) 0 (es.length * s) = _
      unfold fzO.rdB
      split
      · rename_i h2
        rw [h2] at hl
        rw [List.eq_nil_of_length_eq_zero (show (famX (A.length + 1) es).length = 0 from hl)]
      · rw [if_pos ⟨rfl, by rw [hl]; omega⟩, List.drop_zero, List.take_of_length_le (Nat.le_of_eq hl)]
        rfl
    have hf := fz_fam E (k := k) es (A ++ [famB (A.length + 1) s es]) B hok
    rw [List.append_assoc, List.length_append] at hf
    simp only [List.length_singleton, List.singleton_append] at hf
    simp only [hr, ob_some, hf]
    rfl
theorem rn_hards {j : Nat} {π : Nat → Option Nat} : ∀ {l r : List Value}, l.all hard = true → mapO (rnV (j + 1) hard π) (l ++ r) = bo (fun ys => some (l ++ ys)) (mapO (rnV (j + 1) hard π) r)
  | [], r, _ => by
    rw [List.nil_append]
    cases h : mapO (rnV (j + 1) hard π) r <;> simp
  | v :: l, r, h => by
    rw [List.all_cons, Bool.and_eq_true] at h
    rw [List.cons_append, mapO_cons, rnV_p h.1, bo_some, rn_hards h.2]
    cases mapO (rnV (j + 1) hard π) r <;> rfl
def El.okH (e : El α) : Prop := e.a.all hard = true ∧ e.b.all hard = true
theorem Pc.rnH {j : Nat} {π : Nat → Option Nat} (p : Pc α) (h : p.ok E) (k k' : Nat) (hπ : ∀ i, i < p.n → π (k + i) = some (k' + i)) : rnV (j + 1) hard π (p.val k) = some (p.val k') := by
  cases p with
  | no v =>
    rcases h with rfl | rfl
    · rfl
    · exact rnV_p rfl
  | ow pre l post o c =>
    have := hπ 0 (by show 0 < 1; omega)
    rw [Nat.add_zero, Nat.add_zero] at this
    show rnV (j + 1) hard π (.slice (some ⟨k, o, none⟩) l.length c) = _
    rw [rn_hard_sl, this]
    rfl
theorem fam_rnH {j : Nat} {π : Nat → Option Nat} : ∀ (es : List (El α)) (k k' : Nat), (∀ e ∈ es, e.ok E) → (∀ e ∈ es, e.okH) → (∀ i, i < famN es → π (k + i) = some (k' + i)) → mapO (rnV (j + 1) hard π) (famX k es) = some (famX k' es)
  | [], k, k', _, _, _ => rfl
  | e :: r, k, k', h, g, hπ => by
    obtain ⟨_, _, h3⟩ := h e (by simp)
    obtain ⟨h1, h2⟩ := g e (by simp)
    rw [famN] at hπ
    have hr := fam_rnH (j := j) (π := π) r (k + e.p.n) (k' + e.p.n) (fun x hx => h x (by simp [hx])) (fun x hx => g x (by simp [hx])) (fun i hi => by have := hπ (e.p.n + i) (by omega); rwa [← Nat.add_assoc, ← Nat.add_assoc] at this)
    rw [famX, famX, rn_hards h1, mapO_cons, Pc.rnH E e.p h3 k k' (fun i hi => hπ i (by omega)), bo_some, rn_hards h2, hr]
    rfl
theorem fam_hard (es : List (El α)) (k : Nat) (h : (famX k es).all hard = true) : famN es = 0 := by
  refine fam_inert es k ?_
  rw [List.all_eq_true] at h ⊢
  exact fun x hx => hard_inert (h x hx)
end
end Go.Ab
namespace Go.Ab
set_option linter.unusedSimpArgs false
set_option linter.unusedVariables false
section
variable {α : Type} (E : Enc α)
theorem reach_skip {m : Mem} : ∀ (r acc : List Nat) (k : Nat), (∀ n ∈ r, n ∈ acc) → r.length < k → reachF k m r acc = some acc
  | [], acc, k, _, hk => by
    obtain ⟨k, rfl⟩ : ∃ j, k = j + 1 := ⟨k - 1, by omega⟩
    rfl
  | n :: r, acc, k, h, hk => by
    obtain ⟨k, rfl⟩ : ∃ j, k = j + 1 := ⟨k - 1, by omega⟩
    rw [reach_cons, if_pos (by simpa using h n (by simp))]
    exact reach_skip r acc k (fun x hx => h x (by simp [hx])) (by simp at hk; omega)
end
end Go.Ab
namespace Go.Ab
set_option linter.unusedSimpArgs false
set_option linter.unusedVariables false
structure Has (m : Mem) (v : Value) (acc : List Nat) (v0 : Value) (M0 : Mem) : Prop where
  reach : reachF 4194304 m (nmV 8 v) [] = some acc
  val : rnV 8 inert (ixOf acc) v = some v0
  mem : locM m acc acc = some M0
theorem Has.nodup {m : Mem} {v v0 : Value} {acc : List Nat} {M0 : Mem} (H : Has m v acc v0 M0) : acc.Nodup := (reach_ok H.reach List.nodup_nil (fun n hn => by cases hn)).1
theorem Has.lt {m : Mem} {v v0 : Value} {acc : List Nat} {M0 : Mem} (H : Has m v acc v0 M0) : ∀ n ∈ acc, n < m.length := (reach_ok H.reach List.nodup_nil (fun n hn => by cases hn)).2
theorem Has.len {m : Mem} {v v0 : Value} {acc : List Nat} {M0 : Mem} (H : Has m v acc v0 M0) : M0.length = acc.length := (locM_get H.mem).1
theorem grow_app (m Q : Mem) : ∀ n, n < m.length → (m ++ Q)[n]? = m[n]? := fun n hn => List.getElem?_append_left hn
theorem inert_nm {k : Nat} {v : Value} (h : inert v = true) : nmV k v = [] := by
  cases k with
  | zero => rfl
  | succ k =>
    cases v with
    | pointer p =>
      cases p with
      | none => rfl
      | some a => simp at h
    | slice p n c =>
      cases p with
      | none => rfl
      | some a => simp at h
    | agg _ => simp at h
    | tuple _ => simp at h
    | func _ _ _ => simp at h
    | _ => rfl
theorem mapO_inv {f g : Value → Option Value} (hf : ∀ v v', f v = some v' → g v' = some v) : ∀ {vs ys : List Value}, mapO f vs = some ys → mapO g ys = some vs
  | [], ys, h => by cases h; rfl
  | x :: xs, ys, h => by
    obtain ⟨y, h1, h2⟩ := ob_eq h
    obtain ⟨zs, h3, h4⟩ := ob_eq h2
    cases h4
    simp only [mapO, hf x y h1, mapO_inv hf h3]
    rfl
theorem mapO_dom {f g : Value → Option Value} (hf : ∀ v v', f v = some v' → ∃ v2, g v = some v2) : ∀ {vs ys : List Value}, mapO f vs = some ys → ∃ zs, mapO g vs = some zs
  | [], ys, h => ⟨[], rfl⟩
  | x :: xs, ys, h => by
    obtain ⟨y, h1, h2⟩ := ob_eq h
    obtain ⟨zs, h3, h4⟩ := ob_eq h2
    obtain ⟨y2, e1⟩ := hf x y h1
    obtain ⟨z2, e2⟩ := mapO_dom hf h3
    exact ⟨y2 :: z2, by simp only [mapO, e1, e2]; rfl⟩
theorem mapO_cong {f g : Value → Option Value} (hf : ∀ v v', f v = some v' → g v = some v') : ∀ {vs ys : List Value}, mapO f vs = some ys → mapO g vs = some ys
  | [], ys, h => h
  | x :: xs, ys, h => by
    obtain ⟨y, h1, h2⟩ := ob_eq h
    obtain ⟨zs, h3, h4⟩ := ob_eq h2
    cases h4
    simp only [mapO, hf x y h1, mapO_cong hf h3]
    rfl
theorem mapO_flat {f : Value → Option Value} {g : Value → List Nat} {q : List Nat → List Nat} (hq : ∀ a b, q (a ++ b) = q a ++ q b) (h0 : q [] = []) (hf : ∀ v v', f v = some v' → g v' = q (g v)) : ∀ {vs ys : List Value}, mapO f vs = some ys → ys.flatMap g = q (vs.flatMap g)
  | [], ys, h => by cases h; exact h0.symm
  | x :: xs, ys, h => by
    obtain ⟨y, h1, h2⟩ := ob_eq h
    obtain ⟨zs, h3, h4⟩ := ob_eq h2
    cases h4
    rw [List.flatMap_cons, List.flatMap_cons, hq, hf x y h1, mapO_flat hq h0 hf h3]
theorem mapO_lenE {f : Value → Option Value} : ∀ {vs ys : List Value}, mapO f vs = some ys → ys.length = vs.length
  | [], ys, h => by cases h; rfl
  | x :: xs, ys, h => by
    obtain ⟨y, h1, h2⟩ := ob_eq h
    obtain ⟨zs, h3, h4⟩ := ob_eq h2
    cases h4
    rw [List.length_cons, List.length_cons, mapO_lenE h3]
theorem mapO_dropE {f : Value → Option Value} : ∀ {vs ys : List Value} (a : Nat), mapO f vs = some ys → mapO f (vs.drop a) = some (ys.drop a)
  | vs, ys, 0, h => h
  | [], ys, a + 1, h => by cases h; rfl
  | x :: xs, ys, a + 1, h => by
    obtain ⟨y, h1, h2⟩ := ob_eq h
    obtain ⟨zs, h3, h4⟩ := ob_eq h2
    cases h4
    exact mapO_dropE a h3
theorem mapO_takeE {f : Value → Option Value} : ∀ {vs ys : List Value} (a : Nat), mapO f vs = some ys → mapO f (vs.take a) = some (ys.take a)
  | vs, ys, 0, h => rfl
  | [], ys, a + 1, h => by cases h; rfl
  | x :: xs, ys, a + 1, h => by
    obtain ⟨y, h1, h2⟩ := ob_eq h
    obtain ⟨zs, h3, h4⟩ := ob_eq h2
    cases h4
    simp only [List.take_succ_cons, mapO, h1, mapO_takeE a h3]
    rfl
theorem mapO_comp {f g h : Value → Option Value} (hf : ∀ v v' w, f v = some v' → g v' = some w → h v = some w) : ∀ {vs ys ws : List Value}, mapO f vs = some ys → mapO g ys = some ws → mapO h vs = some ws
  | [], ys, ws, h1, h2 => by cases h1; exact h2
  | x :: xs, ys, ws, e1, e2 => by
    obtain ⟨y, h1, h2⟩ := ob_eq e1
    obtain ⟨zs, h3, h4⟩ := ob_eq h2
    cases h4
    obtain ⟨y', h1', h2'⟩ := ob_eq e2
    obtain ⟨zs', h3', h4'⟩ := ob_eq h2'
    cases h4'
    simp only [mapO, hf x y y' h1 h1', mapO_comp hf h3 h3']
    rfl
theorem rnV_nm {π : Nat → Option Nat} {f : Nat → Nat} (hf : ∀ n n', π n = some n' → n' = f n) : ∀ (k : Nat) v v', rnV k inert π v = some v' → nmV k v' = (nmV k v).map f := by
  intro k
  induction k with
  | zero => intro v v' h; cases h
  | succ k ih =>
    intro v v' h
    have key : ∀ {vs ys : List Value}, mapO (rnV k inert π) vs = some ys → ys.flatMap (nmV k) = (vs.flatMap (nmV k)).map f := fun h => mapO_flat (q := List.map f) (fun a b => List.map_append) rfl ih h
    unfold rnV at h
    split at h
    · rename_i hp; cases h; rw [inert_nm hp]; rfl
    · split at h
      · obtain ⟨n', h1, h2⟩ := ob_eq h; cases h2; rw [hf _ _ h1]; rfl
      · obtain ⟨n', h1, h2⟩ := ob_eq h; cases h2; rw [hf _ _ h1]; rfl
      · obtain ⟨xs, h1, h2⟩ := ob_eq h; cases h2
        exact key h1
      · obtain ⟨xs, h1, h2⟩ := ob_eq h; cases h2
        exact key h1
      · obtain ⟨xs, h1, h2⟩ := ob_eq h
        obtain ⟨ys, h3, h4⟩ := ob_eq h2; cases h4
        show xs.flatMap (nmV k) ++ ys.flatMap (nmV k) = _
        rw [key h1, key h3, ← List.map_append]
        rfl
      · cases h
theorem rnV_names {π : Nat → Option Nat} : ∀ (k : Nat) v v', rnV k inert π v = some v' → ∀ n ∈ nmV k v, ∃ n', π n = some n' := by
  intro k
  induction k with
  | zero => intro v v' h; cases h
  | succ k ih =>
    intro v v' h
    have key : ∀ {vs ys : List Value}, mapO (rnV k inert π) vs = some ys → ∀ n ∈ vs.flatMap (nmV k), ∃ n', π n = some n' := by
      intro vs
      induction vs with
      | nil => intro ys h n hn; simp at hn
      | cons x xs ihx =>
        intro ys h n hn
        obtain ⟨y, h1, h2⟩ := ob_eq h
        obtain ⟨zs, h3, h4⟩ := ob_eq h2
        rw [List.flatMap_cons, List.mem_append] at hn
        rcases hn with hn | hn
        · exact ih x y h1 n hn
        · exact ihx h3 n hn
    unfold rnV at h
    split at h
    · rename_i hp; intro n hn; rw [inert_nm hp] at hn; cases hn
    · split at h
      · obtain ⟨n', h1, h2⟩ := ob_eq h
        intro n hn
        rw [show nmV (k + 1) _ = [_] from rfl, List.mem_singleton] at hn
        subst hn; exact ⟨_, h1⟩
      · obtain ⟨n', h1, h2⟩ := ob_eq h
        intro n hn
        rw [show nmV (k + 1) _ = [_] from rfl, List.mem_singleton] at hn
        subst hn; exact ⟨_, h1⟩
      · obtain ⟨xs, h1, h2⟩ := ob_eq h; exact key h1
      · obtain ⟨xs, h1, h2⟩ := ob_eq h; exact key h1
      · obtain ⟨xs, h1, h2⟩ := ob_eq h
        obtain ⟨ys, h3, h4⟩ := ob_eq h2
        intro n hn
        rw [show nmV (k + 1) _ = _ ++ _ from rfl, List.mem_append] at hn
        rcases hn with hn | hn
        · exact key h1 n hn
        · exact key h3 n hn
      · cases h
theorem rnV_inv {π π' : Nat → Option Nat} (hπ : ∀ n n', π n = some n' → π' n' = some n) : ∀ (k : Nat) v v', rnV k inert π v = some v' → rnV k inert π' v' = some v := by
  intro k
  induction k with
  | zero => intro v v' h; cases h
  | succ k ih =>
    intro v v' h
    unfold rnV at h
    split at h
    · rename_i hp; cases h; exact rnV_p hp
    · split at h
      · obtain ⟨n', h1, h2⟩ := ob_eq h; cases h2
        rw [rn_inert_ptr, hπ _ _ h1]; rfl
      · obtain ⟨n', h1, h2⟩ := ob_eq h; cases h2
        rw [rn_inert_sl, hπ _ _ h1]; rfl
      · obtain ⟨xs, h1, h2⟩ := ob_eq h; cases h2
        rw [rn_inert_agg, show xs.toArray.toList = xs from rfl, mapO_inv ih h1]; rfl
      · obtain ⟨xs, h1, h2⟩ := ob_eq h; cases h2
        rw [rn_inert_tuple, show xs.toArray.toList = xs from rfl, mapO_inv ih h1]; rfl
      · obtain ⟨xs, h1, h2⟩ := ob_eq h
        obtain ⟨ys, h3, h4⟩ := ob_eq h2; cases h4
        rw [rn_inert_func, show xs.toArray.toList = xs from rfl, mapO_inv ih h1, show ys.toArray.toList = ys from rfl, mapO_inv ih h3]; rfl
      · cases h
theorem rnV_dom {π π' : Nat → Option Nat} (hπ : ∀ n n', π n = some n' → ∃ n'', π' n = some n'') : ∀ (k : Nat) v v', rnV k inert π v = some v' → ∃ v2, rnV k inert π' v = some v2 := by
  intro k
  induction k with
  | zero => intro v v' h; cases h
  | succ k ih =>
    intro v v' h
    unfold rnV at h
    split at h
    · rename_i hp; exact ⟨v, rnV_p hp⟩
    · split at h
      · obtain ⟨n', h1, h2⟩ := ob_eq h
        obtain ⟨n2, e⟩ := hπ _ _ h1
        exact ⟨_, by rw [rn_inert_ptr, e, bo_some]⟩
      · obtain ⟨n', h1, h2⟩ := ob_eq h
        obtain ⟨n2, e⟩ := hπ _ _ h1
        exact ⟨_, by rw [rn_inert_sl, e, bo_some]⟩
      · obtain ⟨xs, h1, h2⟩ := ob_eq h
        obtain ⟨z, e⟩ := mapO_dom ih h1
        exact ⟨_, by rw [rn_inert_agg, e, bo_some]⟩
      · obtain ⟨xs, h1, h2⟩ := ob_eq h
        obtain ⟨z, e⟩ := mapO_dom ih h1
        exact ⟨_, by rw [rn_inert_tuple, e, bo_some]⟩
      · obtain ⟨xs, h1, h2⟩ := ob_eq h
        obtain ⟨ys, h3, h4⟩ := ob_eq h2
        obtain ⟨z, e⟩ := mapO_dom ih h1
        obtain ⟨z', e'⟩ := mapO_dom ih h3
        exact ⟨_, by rw [rn_inert_func, e, bo_some, e', bo_some]⟩
      · cases h
theorem rnV_cong {p : Value → Bool} {π π' : Nat → Option Nat} (hπ : ∀ n n', π n = some n' → π' n = some n') : ∀ (k : Nat) v v', rnV k p π v = some v' → rnV k p π' v = some v' := by
  intro k
  induction k with
  | zero => intro v v' h; cases h
  | succ k ih =>
    intro v v' h
    unfold rnV at h ⊢
    split at h
    · rename_i hp; rw [if_pos hp]; exact h
    · rename_i hp
      rw [if_neg hp]
      split at h
      · obtain ⟨n', h1, h2⟩ := ob_eq h; simp only [hπ _ _ h1]; exact h2
      · obtain ⟨n', h1, h2⟩ := ob_eq h; simp only [hπ _ _ h1]; exact h2
      · obtain ⟨xs, h1, h2⟩ := ob_eq h; simp only [mapO_cong ih h1]; exact h2
      · obtain ⟨xs, h1, h2⟩ := ob_eq h; simp only [mapO_cong ih h1]; exact h2
      · obtain ⟨xs, h1, h2⟩ := ob_eq h
        obtain ⟨ys, h3, h4⟩ := ob_eq h2
        simp only [mapO_cong ih h1, mapO_cong ih h3]; exact h4
      · cases h
theorem rnV_hard {π : Nat → Option Nat} : ∀ (k : Nat) v v', rnV k hard π v = some v' → rnV k inert π v = some v' := by
  intro k
  induction k with
  | zero => intro v v' h; cases h
  | succ k ih =>
    intro v v' h
    unfold rnV at h
    split at h
    · rename_i hp; cases h; exact rnV_p (hard_inert hp)
    · split at h
      · obtain ⟨n', h1, h2⟩ := ob_eq h; cases h2; rw [rn_inert_ptr, h1]; rfl
      · obtain ⟨n', h1, h2⟩ := ob_eq h; cases h2; rw [rn_inert_sl, h1]; rfl
      · obtain ⟨xs, h1, h2⟩ := ob_eq h; cases h2; rw [rn_inert_agg, mapO_cong ih h1]; rfl
      · obtain ⟨xs, h1, h2⟩ := ob_eq h; cases h2; rw [rn_inert_tuple, mapO_cong ih h1]; rfl
      · obtain ⟨xs, h1, h2⟩ := ob_eq h
        obtain ⟨ys, h3, h4⟩ := ob_eq h2; cases h4
        rw [rn_inert_func, mapO_cong ih h1, mapO_cong ih h3]; rfl
      · cases h
theorem ixOf_get : ∀ {l : List Nat} {i n : Nat}, l.Nodup → l[i]? = some n → ixOf l n = some i
  | [], i, n, _, h => by simp at h
  | a :: l, 0, n, hn, h => by
    simp at h
    subst h
    simp
  | a :: l, i + 1, n, hn, h => by
    rw [List.nodup_cons] at hn
    rw [List.getElem?_cons_succ] at h
    have hm := List.mem_of_getElem? h
    rw [ixOf_cons, if_neg (fun e => hn.1 (by rw [e]; exact hm)), ixOf_get hn.2 h]
    rfl
theorem locM_mk {m : Mem} {acc : List Nat} : ∀ {l : List Nat} {M : Mem}, l.length = M.length → (∀ (i : Nat) b0, M[i]? = some b0 → ∃ n b, l[i]? = some n ∧ m[n]? = some b ∧ locB acc b = some b0) → locM m acc l = some M
  | [], [], _, _ => rfl
  | [], _ :: _, h, _ => by simp at h
  | _ :: _, [], h, _ => by simp at h
  | n :: l, b0 :: M, h, hg => by
    obtain ⟨n', b, h1, h2, h3⟩ := hg 0 b0 rfl
    simp at h1
    subst h1
    have := locM_mk (m := m) (acc := acc) (l := l) (M := M) (by simpa using h) (fun i b1 hb => hg (i + 1) b1 (by simpa using hb))
    simp only [locM, h2, h3, this]
    rfl
theorem reach_map {M m : Mem} {N : Nat} {f : Nat → Nat} (hN : ∀ (i : Nat) b, M[i]? = some b → i < N) (hf : ∀ i j, i < N → j < N → f i = f j → i = j) (hb : ∀ (i : Nat) b, M[i]? = some b → (∃ b', m[f i]? = some b' ∧ nmB b' = (nmB b).map f) ∧ ∀ n ∈ nmB b, n < N) : ∀ (k : Nat) (todo acc res : List Nat), reachF k M todo acc = some res → (∀ n ∈ todo, n < N) → (∀ n ∈ acc, n < N) → reachF k m (todo.map f) (acc.map f) = some (res.map f) := by
  intro k
  induction k with
  | zero => intro todo acc res h; cases h
  | succ k ih =>
    intro todo acc res h ht ha
    cases todo with
    | nil => cases h; rfl
    | cons n r =>
      have hn := ht n (by simp)
      simp only [reachF] at h
      rw [List.map_cons]
      simp only [reachF]
      have hc : (acc.map f).contains (f n) = acc.contains n := by
        rw [Bool.eq_iff_iff]
        simp only [List.contains_eq_mem, decide_eq_true_eq, List.mem_map]
        constructor
        · rintro ⟨x, hx, e⟩
          have := hf x n (ha x hx) hn e
          subst this
          exact hx
        · intro hx
          exact ⟨n, hx, rfl⟩
      rw [hc]
      split at h
      · rename_i hcc
        rw [if_pos hcc]
        exact ih _ _ _ h (fun x hx => ht x (by simp [hx])) ha
      · rename_i hcc
        rw [if_neg hcc]
        split at h
        · rename_i b hbb
          obtain ⟨⟨b', e1, e2⟩, e3⟩ := hb n b hbb
          rw [e1]
          simp only
          rw [e2, ← List.map_append, show acc.map f ++ [f n] = (acc ++ [n]).map f by simp]
          refine ih _ _ _ h (fun x hx => ?_) (fun x hx => ?_)
          · rcases List.mem_append.1 hx with h | h
            · exact ht x (by simp [h])
            · exact e3 x h
          · rcases List.mem_append.1 hx with h | h
            · exact ha x h
            · simp at h; subst h; exact hn
        · cases h
abbrev Can (v0 : Value) (M : Mem) : Prop := Has M v0 (List.range M.length) v0 M
theorem ixOf_range {N n n' : Nat} (h : ixOf (List.range N) n = some n') : n' = n ∧ n < N := by
  have := ixOf_some h
  rw [List.getElem?_range] at this
  · obtain ⟨h1, h2⟩ := List.getElem?_eq_some_iff.1 (ixOf_some h)
    simp at h1 h2
    omega
  · obtain ⟨h1, h2⟩ := List.getElem?_eq_some_iff.1 (ixOf_some h)
    simpa using h1
theorem nmB_names {N : Nat} {b : Blk} (h : locB (List.range N) b = some b) : ∀ n ∈ nmB b, n < N := by
  unfold locB at h
  unfold nmB
  split at h
  · rename_i hi; rw [if_pos hi]; intro n hn; cases hn
  · rename_i hi
    rw [if_neg hi]
    split at h
    · rename_i hl
      rw [if_pos hl]
      obtain ⟨cs, h1, h2⟩ := ob_eq h
      intro n hn
      have key : ∀ {vs ys : List Value}, mapO (rnV 8 inert (ixOf (List.range N))) vs = some ys → ∀ n ∈ vs.flatMap (nmV 8), n < N := by
        intro vs
        induction vs with
        | nil => intro ys h n hn; simp at hn
        | cons x xs ihx =>
          intro ys h n hn
          obtain ⟨y, h1, h2⟩ := ob_eq h
          obtain ⟨zs, h3, h4⟩ := ob_eq h2
          rw [List.flatMap_cons, List.mem_append] at hn
          rcases hn with hn | hn
          · obtain ⟨n', e⟩ := rnV_names 8 x y h1 n hn
            exact (ixOf_range e).2
          · exact ihx h3 n hn
      exact key h1 n hn
    · rename_i hl
      rw [if_neg hl]
      intro n hn
      cases hn
theorem Has.map {M m : Mem} {v0 v : Value} {acc : List Nat} (H : Can v0 M) (hn : acc.Nodup) (hl : acc.length = M.length) (hv : rnV 8 inert (fun i => acc[i]?) v0 = some v) (hb : ∀ (i : Nat) b, M[i]? = some b → ∃ n b', acc[i]? = some n ∧ m[n]? = some b' ∧ bkB (fun i => acc[i]?) b = some b') : Has m v acc v0 M := by
  have hinv : ∀ n n', (fun i => acc[i]?) n = some n' → ixOf acc n' = some n := fun n n' h => ixOf_get hn h
  have hblk : ∀ (i : Nat) b, M[i]? = some b → locB (List.range M.length) b = some b := by
    intro i b hi
    obtain ⟨n, b1, e1, e2, e3⟩ := (locM_get H.mem).2 i b hi
    have hi' := (List.getElem?_eq_some_iff.1 hi).1
    rw [List.getElem?_range hi'] at e1
    cases e1
    rw [hi] at e2
    cases e2
    exact e3
  refine ⟨?_, rnV_inv hinv 8 _ _ hv, ?_⟩
  · have hnm : ∀ n ∈ nmV 8 v0, n < M.length := by
      intro n hn'
      obtain ⟨n', e⟩ := rnV_names 8 _ _ H.val n hn'
      exact (ixOf_range e).2
    have hf1 : ∀ n n', (fun i => acc[i]?) n = some n' → n' = acc.getD n 0 := by
      intro n n' h
      simp only at h
      simp [h]
    have := reach_map (m := m) (N := M.length) (f := fun i => acc.getD i 0) (fun i b hi => (List.getElem?_eq_some_iff.1 hi).1) (fun i j hi hj e => by
      have ei : acc[i]? = some (acc.getD i 0) := by simp [List.getElem?_eq_getElem (show i < acc.length by omega)]
      have ej : acc[j]? = some (acc.getD j 0) := by simp [List.getElem?_eq_getElem (show j < acc.length by omega)]
      have h1 := ixOf_get hn ei
      have h2 := ixOf_get hn ej
      have e : acc.getD i 0 = acc.getD j 0 := e
      rw [e, h2] at h1
      cases h1
      rfl) (fun i b hi => by
      refine ⟨?_, nmB_names (hblk i b hi)⟩
      obtain ⟨n, b', e1, e2, e3⟩ := hb i b hi
      refine ⟨b', by simp [e1, e2], ?_⟩
      unfold bkB at e3
      split at e3
      · rename_i hin
        cases e3
        unfold nmB
        rw [if_pos hin]
        rfl
      · rename_i hin
        split at e3
        · rename_i hlv
          obtain ⟨cs, h1, h2⟩ := ob_eq e3
          cases h2
          have hflat := mapO_flat (q := List.map fun i => acc.getD i 0) (fun a b => List.map_append) rfl (rnV_nm hf1 8) h1
          unfold nmB
          simp only [hlv, if_true]
          rw [if_neg hin]
          split
          · rename_i hc
            rw [← hflat]
            have : ∀ l : List Value, l.all inert = true → l.flatMap (nmV 8) = [] := by
              intro l
              induction l with
              | nil => intro _; rfl
              | cons x l ih =>
                intro h
                rw [List.all_cons, Bool.and_eq_true] at h
                rw [List.flatMap_cons, inert_nm h.1, ih h.2]; rfl
            rw [this _ hc]
          · exact hflat
        · rename_i hlv
          cases e3
          unfold nmB
          simp [hin, hlv]) 4194304 (nmV 8 v0) [] (List.range M.length) H.reach hnm (fun n hn => by cases hn)
    rw [← rnV_nm hf1 8 _ _ hv] at this
    rw [List.map_nil] at this
    rw [this]
    congr 1
    apply List.ext_getElem?
    intro i
    rw [List.getElem?_map]
    rcases Nat.lt_or_ge i M.length with hi | hi
    · rw [List.getElem?_range hi]
      simp [List.getElem?_eq_getElem (show i < acc.length by omega)]
    · rw [List.getElem?_eq_none (by simpa using hi), List.getElem?_eq_none (by omega)]
      rfl
  · refine locM_mk hl fun i b hi => ?_
    obtain ⟨n, b', e1, e2, e3⟩ := hb i b hi
    refine ⟨n, b', e1, e2, ?_⟩
    have hc := hblk i b hi
    unfold bkB at e3
    split at e3
    · rename_i hin
      cases e3
      unfold locB
      rw [if_pos hin]
    · rename_i hin
      split at e3
      · rename_i hlv
        obtain ⟨cs, h1, h2⟩ := ob_eq e3
        cases h2
        have hback := mapO_inv (rnV_inv hinv 8) h1
        unfold locB
        simp only [hlv, if_true]
        split
        · rename_i hc2
          have : ∀ l ys : List Value, l.all inert = true → mapO (rnV 8 inert (ixOf acc)) l = some ys → ys = l := by
            intro l
            induction l with
            | nil => intro ys _ h; cases h; rfl
            | cons x l ih =>
              intro ys h h'
              rw [List.all_cons, Bool.and_eq_true] at h
              obtain ⟨y, q1, q2⟩ := ob_eq h'
              obtain ⟨zs, q3, q4⟩ := ob_eq q2
              cases q4
              rw [rnV_p h.1] at q1
              cases q1
              rw [ih zs h.2 q3]
          have e := this _ _ hc2 hback
          rw [← e, ← hlv]
        · rw [hback, ← hlv]
          rfl
      · rename_i hlv
        exfalso
        unfold locB at hc
        rw [if_neg hin, if_neg hlv] at hc
        have : b.cells = [] := by
          have := Option.some.inj hc
          rw [← this]
        rw [this] at hin
        simp at hin
end Go.Ab
namespace Go.Ab
set_option linter.unusedSimpArgs false
set_option linter.unusedVariables false
theorem mapB_mk {f : Blk → Option Blk} : ∀ {m : Mem}, (∀ (i : Nat) b, m[i]? = some b → ∃ b', f b = some b') → ∃ bs, mapB f m = some bs
  | [], _ => ⟨[], rfl⟩
  | b :: m, h => by
    obtain ⟨b', e⟩ := h 0 b rfl
    obtain ⟨bs, e2⟩ := mapB_mk (m := m) (f := f) (fun i x hx => h (i + 1) x (by simpa using hx))
    exact ⟨b' :: bs, by simp only [mapB, e, e2]; rfl⟩
theorem loc_bkB {N : Nat} {π : Nat → Option Nat} {b : Blk} (h : locB (List.range N) b = some b) (hπ : ∀ n, n < N → ∃ n', π n = some n') : ∃ b', bkB π b = some b' := by
  unfold locB at h
  unfold bkB
  split at h
  · rename_i hi; exact ⟨b, by rw [if_pos hi]⟩
  · rename_i hi
    rw [if_neg hi]
    split at h
    · rename_i hl
      rw [if_pos hl]
      obtain ⟨cs, h1, h2⟩ := ob_eq h
      obtain ⟨zs, e⟩ := mapO_dom (g := rnV 8 inert π) (rnV_dom (fun n n' hn => hπ n (ixOf_range hn).2) 8) h1
      exact ⟨_, by rw [e]; rfl⟩
    · rename_i hl
      rw [if_neg hl]
      exact ⟨_, rfl⟩
theorem Can.blk {v0 : Value} {M : Mem} (H : Can v0 M) : ∀ (i : Nat) b, M[i]? = some b → locB (List.range M.length) b = some b := by
  intro i b hi
  obtain ⟨n, b1, e1, e2, e3⟩ := (locM_get H.mem).2 i b hi
  have hi' := (List.getElem?_eq_some_iff.1 hi).1
  rw [List.getElem?_range hi'] at e1
  cases e1
  rw [hi] at e2
  cases e2
  exact e3
theorem Has.call {X : List Value → Mem → Option VM} {m M0 M1 : Mem} {v v0 r : Value} {acc : List Nat} {rest : List Value} (H : Has m v acc v0 M0) (hX : X (v0 :: rest) M0 = some (r, M1)) (hr : scal r = true) (hrest : rest.all scal = true) (H1 : Can v0 M1) (hl : M1.length = M0.length) :
    ∃ m', rcall X (v :: rest) m = some (r, m') ∧ m'.length = m.length ∧ (∀ n, n ∉ acc → m'[n]? = m[n]?) ∧ Has m' v acc v0 M1 := by
  have hlen := H.len
  have h1 : (v :: rest).flatMap (nmV 8) = nmV 8 v := by rw [List.flatMap_cons, nm_scal hrest, List.append_nil]
  have h2 : mapO (rnV 8 inert (ixOf acc)) (v :: rest) = some (v0 :: rest) := by
    have hr := rn_scal (j := 7) (π := ixOf acc) (l := rest) (r := []) hrest
    rw [List.append_nil] at hr
    rw [mapO_cons, H.val, bo_some, hr]
    simp [mapO]
  have hπ : ∀ n, n < M1.length → ∃ n', bk acc m.length M1.length n = some n' := fun n hn => by
    unfold bk
    rw [if_pos (by omega)]
    exact ⟨_, List.getElem?_eq_getElem (by omega)⟩
  obtain ⟨bs, hbs⟩ := mapB_mk (m := M1) (f := bkB (bk acc m.length M1.length)) fun i b hb => loc_bkB (H1.blk i b hb) hπ
  obtain ⟨e1, e2⟩ := mapB_get hbs
  refine ⟨setAll m acc bs, ?_, setAll_len _ _ _, fun n hn => setAll_out _ _ _ _ hn, ?_⟩
  · rw [rcall_eq, h1, H.reach, bo_some, h2, bo_some, H.mem, bo_some, hX, bo_some]
    simp only
    rw [if_pos (by omega), rnV_scal hr, bo_some, hbs, bo_some, List.take_of_length_le (by omega), List.drop_of_length_le (by omega), List.append_nil]
  · have hb : ∀ n n', bk acc m.length M1.length n = some n' → n < M1.length → acc[n]? = some n' := fun n n' h hn => by
      unfold bk at h
      rwa [if_pos (by omega)] at h
    refine Has.map H1 H.nodup (by omega) ?_ fun i b hi => ?_
    · refine rnV_inv (π := ixOf acc) (fun n n' h => ixOf_some h) 8 _ _ H.val
    · have hi' := (List.getElem?_eq_some_iff.1 hi).1
      have ha : acc[i]? = some acc[i] := List.getElem?_eq_getElem (by omega)
      have hbi : bs[i]? = some bs[i] := List.getElem?_eq_getElem (by omega)
      refine ⟨acc[i], bs[i], ha, setAll_in _ _ _ H.nodup H.lt i _ _ ha hbi, ?_⟩
      have := e2 i b bs[i] hi hbi
      have hnm := nmB_names (H1.blk i b hi)
      unfold bkB at this ⊢
      split at this
      · rename_i hin; rw [if_pos hin]; exact this
      · rename_i hin
        rw [if_neg hin]
        split at this
        · rename_i hlv
          rw [if_pos hlv]
          obtain ⟨cs, q1, q2⟩ := ob_eq this
          have hloc := H1.blk i b hi
          unfold locB at hloc
          rw [if_neg hin, if_pos hlv] at hloc
          obtain ⟨ds, r1, r2⟩ := ob_eq hloc
          obtain ⟨zs, r3⟩ := mapO_dom (g := rnV 8 inert fun i => acc[i]?) (rnV_dom (fun n n' hn => ⟨_, List.getElem?_eq_getElem (show n < acc.length by have := (ixOf_range hn).2; omega)⟩) 8) r1
          have hcg := mapO_cong (g := rnV 8 inert (bk acc m.length M1.length)) (rnV_cong (fun n n' hn => by
            unfold bk
            have := (List.getElem?_eq_some_iff.1 hn).1
            rw [if_pos this]
            exact hn) 8) r3
          rw [hcg] at q1
          cases q1
          rw [r3]
          exact q2
        · rename_i hlv
          rw [if_neg hlv]
          exact this
def HdM (M0 : Mem) : Prop := ∀ N, ∃ bs, mapB (shB N M0.length) M0 = some bs
theorem Has.new {X : List Value → Mem → Option VM} {m M0 : Mem} {v0 : Value} {F : Nat → Value} {args fr : List Value} (ha : mapO (fz 64 m) args = some fr) (hX : X fr [] = some (v0, M0)) (H : Can v0 M0) (hd : HdM M0) (hF : ∀ N, rnV 8 hard (sft N M0.length) v0 = some (F N)) :
    ∃ k m', k = m.length ∧ fcall X args m = some (F k, m') ∧ m'.length = m.length + M0.length ∧ (∀ n, n < m.length → m'[n]? = m[n]?) ∧ Has m' (F k) (List.range' k M0.length) v0 M0 := by
  obtain ⟨bs, hbs⟩ := hd m.length
  obtain ⟨v, hv, hvF⟩ : ∃ v, rnV 8 hard (sft m.length M0.length) v0 = some v ∧ F m.length = v := ⟨_, hF _, rfl⟩
  refine ⟨m.length, ?_⟩
  rw [hvF]
  obtain ⟨e1, e2⟩ := mapB_get hbs
  have hs : ∀ n n', sft m.length M0.length n = some n' → (List.range' m.length M0.length)[n]? = some n' := by
    intro n n' h
    unfold sft at h
    split at h
    · rename_i hn
      cases h
      rw [List.getElem?_range' hn]
      congr 1
      omega
    · cases h
  refine ⟨m ++ bs, rfl, ?_, by simp [e1], grow_app m bs, Has.map H List.nodup_range' (by simp) ?_ fun i b hi => ?_⟩
  · rw [fcall_eq, ha, bo_some, hX, bo_some]
    simp only [hv, hbs, bo_some]
  · exact rnV_cong hs 8 _ _ (rnV_hard 8 _ _ hv)
  · have hi' := (List.getElem?_eq_some_iff.1 hi).1
    have hbi : bs[i]? = some bs[i] := List.getElem?_eq_getElem (by omega)
    refine ⟨m.length + i, bs[i], by rw [List.getElem?_range' hi']; congr 1; omega, by rw [List.getElem?_append_right (by omega), Nat.add_sub_cancel_left]; exact hbi, ?_⟩
    have := e2 i b bs[i] hi hbi
    unfold shB at this
    split at this
    · rename_i hlo
      unfold bkB
      split at this
      · rename_i hh
        have : b = bs[i] := Option.some.inj this
        have hin : b.cells.all inert = true := by
          rw [List.all_eq_true] at hh ⊢
          exact fun x hx => hard_inert (hh x hx)
        rw [if_pos hin, this]
      · rename_i hh
        obtain ⟨cs, q1, q2⟩ := ob_eq this
        have q3 := mapO_cong (g := rnV 8 inert (sft m.length M0.length)) (rnV_hard 8) q1
        have q4 := mapO_cong (g := rnV 8 inert fun i => (List.range' m.length M0.length)[i]?) (rnV_cong hs 8) q3
        split
        · rename_i hin
          exfalso
          apply hh
          have : ∀ l ys : List Value, l.all inert = true → mapO (rnV 8 hard (sft m.length M0.length)) l = some ys → l.all hard = true := by
            intro l
            induction l with
            | nil => intro _ _ _; rfl
            | cons x l ih =>
              intro ys h h'
              rw [List.all_cons, Bool.and_eq_true] at h
              obtain ⟨y, r1, r2⟩ := ob_eq h'
              obtain ⟨zs, r3, r4⟩ := ob_eq r2
              rw [List.all_cons, ih zs h.2 r3, Bool.and_true]
              unfold rnV at r1
              split at r1
              · assumption
              · split at r1 <;> first | (simp at h; done) | cases r1
          exact this _ _ hin q1
        · rw [if_pos hlo.1, q4]
          exact q2
    · cases this
theorem fz_inert {k : Nat} {m m' : Mem} {v : Value} (h : inert v = true) : fz k m' v = fz k m v := by
  cases k with
  | zero => rfl
  | succ k =>
    cases v with
    | pointer p =>
      cases p with
      | none => rfl
      | some a => simp at h
    | slice p n c =>
      cases p with
      | none => rcases n with _ | n <;> rcases c with _ | c <;> rfl
      | some a => simp at h
    | agg _ => simp at h
    | tuple _ => simp at h
    | func _ _ _ => simp at h
    | _ => rfl
theorem mapO_inertF {k : Nat} {m m' : Mem} : ∀ {l : List Value}, l.all inert = true → mapO (fz k m') l = mapO (fz k m) l
  | [], _ => rfl
  | x :: l, h => by
    rw [List.all_cons, Bool.and_eq_true] at h
    rw [mapO_cons, mapO_cons, fz_inert h.1, mapO_inertF h.2]
theorem locB_live {acc : List Nat} {b b0 : Blk} (h : locB acc b = some b0) (hl : b0.live = true) : b.live = true ∧ b.es = b0.es ∧ b.cells.length = b0.cells.length ∧ ((b.cells.all inert = true ∧ b0 = b) ∨ mapO (rnV 8 inert (ixOf acc)) b.cells = some b0.cells) := by
  unfold locB at h
  split at h
  · rename_i hi; cases h; exact ⟨hl, rfl, rfl, .inl ⟨hi, rfl⟩⟩
  · split at h
    · rename_i hlv
      obtain ⟨cs, h1, h2⟩ := ob_eq h
      cases h2
      exact ⟨hlv, rfl, (mapO_lenE h1).symm, .inr h1⟩
    · rename_i hlv
      cases h
      exact absurd hl hlv
theorem all_drop_take {p : Value → Bool} {l : List Value} (h : l.all p = true) (a n : Nat) : ((l.drop a).take n).all p = true := by
  rw [List.all_eq_true] at h ⊢
  exact fun x hx => h x (List.mem_of_mem_drop (List.mem_of_mem_take hx))
theorem fz_loc {m M0 : Mem} {acc : List Nat} (hm : locM m acc acc = some M0) : ∀ (k j : Nat) (v v0 w : Value), rnV j inert (ixOf acc) v = some v0 → fz k M0 v0 = some w → fz k m v = some w := by
  intro k
  induction k with
  | zero => intro j v v0 w _ h; cases h
  | succ k ih =>
    intro j v v0 w hv hw
    have hblk : ∀ n n0, ixOf acc n = some n0 → ∀ b0, M0[n0]? = some b0 → ∃ b, m[n]? = some b ∧ locB acc b = some b0 := by
      intro n n0 hn b0 hb
      obtain ⟨x, b, q1, q2, q3⟩ := (locM_get hm).2 n0 b0 hb
      rw [ixOf_some hn] at q1
      cases q1
      exact ⟨b, q2, q3⟩
    have key : ∀ {cs cs0 xs : List Value} (j : Nat), mapO (rnV j inert (ixOf acc)) cs = some cs0 → mapO (fz k M0) cs0 = some xs → mapO (fz k m) cs = some xs := fun j h1 h2 => mapO_comp (fun v v' w h h' => ih j v v' w h h') h1 h2
    have part : ∀ {b b0 : Blk} {a n : Nat} {xs : List Value}, locB acc b = some b0 → b0.live = true → mapO (fz k M0) ((b0.cells.drop a).take n) = some xs → mapO (fz k m) ((b.cells.drop a).take n) = some xs := by
      intro b b0 a n xs h1 h2 h3
      obtain ⟨_, _, _, h4⟩ := locB_live h1 h2
      rcases h4 with ⟨h4, rfl⟩ | h4
      · rw [mapO_inertF (m := M0) (all_drop_take h4 a n)]
        exact h3
      · exact key 8 (mapO_takeE n (mapO_dropE a h4)) h3
    cases j with
    | zero => cases hv
    | succ j =>
      unfold rnV at hv
      split at hv
      · rename_i hp; cases hv; rw [fz_inert (m := M0) hp]; exact hw
      · split at hv
        · rename_i n o _
          obtain ⟨n0, h1, h2⟩ := ob_eq hv; cases h2
          rw [fz_ptr] at hw ⊢
          split at hw
          · rename_i b0 hb0
            obtain ⟨b, e1, e2⟩ := hblk n n0 h1 b0 hb0
            rw [e1]
            simp only
            split at hw
            · rename_i hl
              obtain ⟨l1, l2, l3, l4⟩ := locB_live e2 hl.1
              rw [if_pos ⟨l1, by omega⟩]
              obtain ⟨xs, q1, q2⟩ := ob_eq (show ob (mapO (fz k M0) (b0.cells.drop o)) (fun xs => some (roP xs)) = some w from hw)
              have := part (a := o) (n := b0.cells.length) e2 hl.1 (by rw [List.take_of_length_le (by simp)]; exact q1)
              rw [List.take_of_length_le (by simp; omega)] at this
              rw [this]
              exact q2
            · cases hw
          · cases hw
        · rename_i n o len cap _
          obtain ⟨n0, h1, h2⟩ := ob_eq hv; cases h2
          rw [fz_sl] at hw ⊢
          split at hw
          · rename_i h0; rw [if_pos h0]; exact hw
          · rename_i h0
            rw [if_neg h0]
            split at hw
            · rename_i b0 hb0
              obtain ⟨b, e1, e2⟩ := hblk n n0 h1 b0 hb0
              rw [e1]
              simp only
              split at hw
              · rename_i hl
                obtain ⟨l1, l2, l3, l4⟩ := locB_live e2 hl
                rw [if_pos l1]
                obtain ⟨cs, q1, q2⟩ := ob_eq (show ob (rd M0 n0 o (len * b0.es)) (fun cs => bo (fun xs => some (roS len xs)) (mapO (fz k M0) cs)) = some w from hw)
                obtain ⟨xs, q3, q4⟩ := ob_eq (show ob (mapO (fz k M0) cs) (fun xs => some (roS len xs)) = some w from q2)
                rw [l2]
                unfold rd at q1 ⊢
                split at q1
                · rename_i hz
                  rw [if_pos hz]
                  cases q1
                  simp only [bo_some']
                  cases q3
                  simpa [mapO] using q4
                · rename_i hz
                  rw [if_neg hz, e1]
                  rw [hb0] at q1
                  simp only at q1 ⊢
                  split at q1
                  · rename_i hc
                    rw [if_pos ⟨l1, by omega⟩]
                    cases q1
                    have := part e2 hl q3
                    simp only [bo_some']
                    rw [this]
                    exact q4
                  · cases q1
              · cases hw
            · cases hw
        · obtain ⟨xs, h1, h2⟩ := ob_eq hv; cases h2
          rw [fz_agg] at hw ⊢
          obtain ⟨ys, q1, q2⟩ := ob_eq (show ob (mapO (fz k M0) xs) (fun xs => some (Value.agg xs.toArray)) = some w from hw)
          rw [key j h1 q1]
          exact q2
        · obtain ⟨xs, h1, h2⟩ := ob_eq hv; cases h2
          have hw : ob (mapO (fz k M0) xs) (fun xs => some (Value.tuple xs.toArray)) = some w := hw
          obtain ⟨ys, q1, q2⟩ := ob_eq hw
          show ob (mapO (fz k m) _) (fun xs => some (Value.tuple xs.toArray)) = some w
          rw [key j h1 q1]
          exact q2
        · obtain ⟨xs, h1, h2⟩ := ob_eq hv
          obtain ⟨ys, h3, h4⟩ := ob_eq h2; cases h4
          have l1 := mapO_lenE h1
          have l2 := mapO_lenE h3
          rename_i fn a b _
          have hw : (if xs.toArray.size = 0 ∧ ys.toArray.size = 0 then some (Value.func fn #[] #[]) else none) = some w := hw
          show (if a.size = 0 ∧ b.size = 0 then some (Value.func fn #[] #[]) else none) = some w
          split at hw
          · rename_i hc
            rw [if_pos (by simp at hc l1 l2; simp_all)]
            exact hw
          · cases hw
        · cases hv
theorem Has.fz {k : Nat} {m : Mem} {v v0 w : Value} {acc : List Nat} {M0 : Mem} (H : Has m v acc v0 M0) (h : Ab.fz k M0 v0 = some w) : Ab.fz k m v = some w := fz_loc H.mem k 8 v v0 w H.val h
end Go.Ab
namespace Go.Ab
set_option linter.unusedSimpArgs false
set_option linter.unusedVariables false
section
variable {α : Type} (E : Enc α)
theorem fz_can {k s c : Nat} {es : List (El α)} (hok : ∀ e ∈ es, e.ok E) (hs : ∀ e ∈ es, e.a.length + 1 + e.b.length = s) : fz (k + 3) (famB 1 s es :: famM E es) (.slice (some ⟨0, 0, none⟩) es.length c) = some (roS es.length (es.flatMap (El.fro E))) := by
  have := fz_all E (k := k) (s := s) (c := c) [] [] es hok hs
  simpa using this
end
theorem f_ask {X : List Value → Mem → Option VM} {args fr : List Value} {m : Mem} {r : Value} (ha : mapO (fz 64 m) args = some fr) (hX : X fr [] = some (r, [])) (hr : hard r = true) : fcall X args m = some (r, m) := by
  rw [fcall_eq, ha, bo_some, hX, bo_some, rnV_p hr, bo_some]
  simp [mapB]
theorem mapO2 {f : Value → Option Value} {a b a' b' : Value} (h1 : f a = some a') (h2 : f b = some b') : mapO f [a, b] = some [a', b'] := by
  simp only [mapO, h1, h2]
  rfl
theorem mapO1 {f : Value → Option Value} {a a' : Value} (h1 : f a = some a') : mapO f [a] = some [a'] := by
  simp only [mapO, h1]
  rfl
theorem box_st {m : Mem} {z : List Value} {sz : Nat} {x : Value} (h1 : x.cells.size = sz) (h2 : x.cells.toList.all flat = true) (h3 : z.length = sz) : stX (m ++ [⟨z, 0, true, true⟩]) sz (.pointer (some ⟨m.length, 0, none⟩)) x = some (m ++ [⟨x.cells.toList, 0, true, true⟩]) := by
  have h4 : x.cells.toList.length = z.length := by simp [h1, h3]
  have e := lay_pre z x.cells.toList [] (by omega)
  rw [List.append_nil, List.append_nil] at e
  rw [stX_ptr, if_pos ⟨h1, h2⟩]
  simp [h4, e]
end Go.Ab
namespace Go.Ab
set_option linter.unusedSimpArgs false
set_option linter.unusedVariables false
theorem mem_range' {a n x : Nat} : x ∈ List.range' a n ↔ a ≤ x ∧ x < a + n := by
  rw [List.mem_range'_1]
end Go.Ab
namespace Go.Ab
set_option linter.unusedSimpArgs false
set_option linter.unusedVariables false
def famI {α : Type} : List Nat → List (El α) → List Value
  | _, [] => []
  | ix, e :: r => e.a ++ (e.p.val (ix.headD 0) :: (e.b ++ famI (ix.drop e.p.n) r))
theorem famI_range {α : Type} : ∀ (es : List (El α)) (k : Nat), famI (List.range' k (famN es)) es = famX k es
  | [], k => rfl
  | e :: r, k => by
    rw [famI, famX, famN]
    have h1 : (List.range' k (e.p.n + famN r)).drop e.p.n = List.range' (k + e.p.n) (famN r) := by
      rw [List.drop_range', Nat.add_sub_cancel_left, Nat.mul_one]
    rw [h1, famI_range r]
    cases hp : e.p with
    | no v => rfl
    | ow pre l post o c =>
      show _ ++ (Value.slice (some ⟨(List.range' k (1 + famN r)).headD 0, o, none⟩) l.length c :: _) = _
      rw [Nat.add_comm, List.range'_succ]
      rfl
section
variable {α : Type} (E : Enc α)
theorem famI_nm {j : Nat} : ∀ (es : List (El α)) (ix : List Nat), ix.length = famN es → (∀ e ∈ es, e.ok E) → (famI ix es).flatMap (nmV (j + 1)) = ix
  | [], ix, hl, _ => by
    have : ix = [] := List.eq_nil_of_length_eq_zero hl
    rw [this]
    rfl
  | e :: r, ix, hl, h => by
    obtain ⟨h1, h2, h3⟩ := h e (by simp)
    rw [famN] at hl
    have hr := famI_nm (j := j) r (ix.drop e.p.n) (by rw [List.length_drop]; omega) (fun x hx => h x (by simp [hx]))
    rw [famI, List.flatMap_append, List.flatMap_cons, List.flatMap_append, nm_scal h1, nm_scal h2, Pc.nm E e.p h3, hr, List.nil_append, List.nil_append]
    cases hp : e.p with
    | no v => rfl
    | ow pre l post o c =>
      rw [hp] at hl
      cases ix with
      | nil => simp [Pc.n] at hl; omega
      | cons x ix => rfl
theorem famI_inert : ∀ (es : List (El α)) (ix : List Nat), (famI ix es).all inert = true → famN es = 0
  | [], ix, _ => rfl
  | e :: r, ix, h => by
    rw [famI, List.all_append, List.all_cons, List.all_append] at h
    simp only [Bool.and_eq_true] at h
    rw [famN, Pc.val_inert _ h.2.1, famI_inert r _ h.2.2.2]
theorem nmB_famI (es : List (El α)) (ix : List Nat) (s : Nat) (o : Bool) (hl : ix.length = famN es) (h : ∀ e ∈ es, e.ok E) : nmB ⟨famI ix es, s, o, true⟩ = ix := by
  unfold nmB
  split
  · rename_i h1
    have := famI_inert es ix h1
    rw [this] at hl
    rw [List.eq_nil_of_length_eq_zero hl]
  · simp only [if_true]
    exact famI_nm E es ix hl h
theorem famI_rn {j : Nat} {π : Nat → Option Nat} : ∀ (es : List (El α)) (ix : List Nat) (k' : Nat), ix.length = famN es → (∀ e ∈ es, e.ok E) → (∀ i n, ix[i]? = some n → π n = some (k' + i)) → mapO (rnV (j + 1) inert π) (famI ix es) = some (famX k' es)
  | [], ix, k', _, _, _ => rfl
  | e :: r, ix, k', hl, h, hπ => by
    obtain ⟨h1, h2, h3⟩ := h e (by simp)
    rw [famN] at hl
    have hr := famI_rn (j := j) (π := π) r (ix.drop e.p.n) (k' + e.p.n) (by rw [List.length_drop]; omega) (fun x hx => h x (by simp [hx])) (fun i n hi => by
      rw [List.getElem?_drop] at hi
      have := hπ _ n hi
      rwa [← Nat.add_assoc] at this)
    have hp : rnV (j + 1) inert π (e.p.val (ix.headD 0)) = some (e.p.val k') := by
      refine Pc.rn E e.p h3 _ k' fun i hi => ?_
      cases hp : e.p with
      | no v => rw [hp] at hi; cases hi
      | ow pre l post o c =>
        rw [hp] at hi hl
        have : i = 0 := by have : i < 1 := hi; omega
        subst this
        cases ix with
        | nil => simp [Pc.n] at hl; omega
        | cons x ix => exact hπ 0 x rfl
    rw [famI, famX, rn_scal h1, mapO_cons, hp, bo_some, rn_scal h2, hr]
    rfl
theorem locB_famI {acc : List Nat} (es : List (El α)) (ix : List Nat) (k' s : Nat) (o : Bool) (hl : ix.length = famN es) (h : ∀ e ∈ es, e.ok E) (hπ : ∀ i n, ix[i]? = some n → ixOf acc n = some (k' + i)) : locB acc ⟨famI ix es, s, o, true⟩ = some ⟨famX k' es, s, o, true⟩ := by
  have hr := famI_rn E (j := 7) (π := ixOf acc) es ix k' hl h hπ
  unfold locB
  split
  · rename_i hi
    have h0 := famI_inert es ix hi
    rw [h0] at hl
    have := List.eq_nil_of_length_eq_zero hl
    subst this
    have e := famI_range es 0
    rw [h0] at e
    rw [show ([] : List Nat) = List.range' 0 0 from rfl, e, famX_zero es 0 k' h0]
  · simp only [if_true]
    rw [hr]
    rfl
theorem reach_ixs {m : Mem} : ∀ (ix : List Nat) (k : Nat) (acc r : List Nat), (∀ n ∈ ix, ∃ l : List α, m[n]? = some (ownB E l)) → ix.Nodup → (∀ n ∈ ix, n ∉ acc) → ix.length ≤ k → reachF k m (ix ++ r) acc = reachF (k - ix.length) m r (acc ++ ix)
  | [], k, acc, r, _, _, _, _ => by simp
  | x :: ix, k, acc, r, ho, hn, ha, hk => by
    obtain ⟨k, rfl⟩ : ∃ j, k = j + 1 := ⟨k - 1, by simp at hk; omega⟩
    rw [List.nodup_cons] at hn
    obtain ⟨l, hx⟩ := ho x (by simp)
    rw [List.cons_append, reach_cons, if_neg (by simpa using ha x (by simp)), hx]
    simp only [nmB_own, List.append_nil]
    rw [reach_ixs ix k (acc ++ [x]) r (fun n hn => ho n (by simp [hn])) hn.2 (fun n h => by
      rw [List.mem_append, List.mem_singleton]
      rintro (h1 | rfl)
      · exact ha n (by simp [h]) h1
      · exact hn.1 h) (by simpa using hk)]
    rw [List.append_assoc, List.length_cons]
    congr 1
    omega
theorem loc_ixs {m : Mem} {acc : List Nat} : ∀ (F : Mem) (ix r : List Nat), ix.length = F.length → (∀ (i : Nat) n b, ix[i]? = some n → F[i]? = some b → m[n]? = some b ∧ ∃ l : List α, b = ownB E l) → locM m acc (ix ++ r) = bo (fun bs => some (F ++ bs)) (locM m acc r)
  | [], ix, r, hl, _ => by
    have : ix = [] := List.eq_nil_of_length_eq_zero hl
    subst this
    cases h : locM m acc r <;> simp [h]
  | b :: F, [], r, hl, _ => by simp at hl
  | b :: F, n :: ix, r, hl, h => by
    obtain ⟨h1, l, h2⟩ := h 0 n b rfl rfl
    rw [List.cons_append, locM_cons, h1, loc_ixs F ix r (by simpa using hl) (fun i n b hi hb => h (i + 1) n b (by simpa using hi) (by simpa using hb))]
    subst h2
    simp only [locB_own, bo_some]
    cases locM m acc r <;> rfl
theorem fam_own (es : List (El α)) (i : Nat) (b : Blk) (h : (famM E es)[i]? = some b) : ∃ l : List α, b = ownB E l := by
  obtain ⟨l, e⟩ := fam_ent0 E es i (List.getElem?_eq_some_iff.1 h).1
  rw [h] at e
  exact ⟨l, Option.some.inj e⟩
structure Fam (m : Mem) (j s : Nat) (ix : List Nat) (es : List (El α)) : Prop where
  out : m[j]? = some ⟨famI ix es, s, true, true⟩
  len : ix.length = famN es
  nod : (j :: ix).Nodup
  inn : ∀ (i : Nat) n b, ix[i]? = some n → (famM E es)[i]? = some b → m[n]? = some b
  ok : ∀ e ∈ es, e.ok E
theorem Fam.own {m : Mem} {j s : Nat} {ix : List Nat} {es : List (El α)} (H : Fam E m j s ix es) : ∀ n ∈ ix, ∃ l : List α, m[n]? = some (ownB E l) := by
  intro n hn
  obtain ⟨i, hi, rfl⟩ := List.getElem_of_mem hn
  have hb : i < (famM E es).length := by rw [famM_len, ← H.len]; exact hi
  obtain ⟨l, e⟩ := fam_own E es i _ (List.getElem?_eq_getElem hb)
  exact ⟨l, by rw [← e]; exact H.inn i _ _ (List.getElem?_eq_getElem hi) (List.getElem?_eq_getElem hb)⟩
theorem Fam.reach {m : Mem} {j s k : Nat} {ix : List Nat} {es : List (El α)} (H : Fam E m j s ix es) (acc r : List Nat) (hj : j ∉ acc) (hr : r = []) (ha : ∀ n ∈ ix, n ∉ acc) (hk : ix.length < k) : reachF (k + 1) m (j :: r) acc = some (acc ++ j :: ix) := by
  subst hr
  rw [reach_cons, if_neg (by simpa using hj), H.out]
  simp only
  rw [nmB_famI E es ix s true H.len H.ok, List.nil_append]
  have hn := H.nod
  rw [List.nodup_cons] at hn
  have := reach_ixs E (m := m) ix k (acc ++ [j]) [] H.own hn.2 (fun n h => by
    rw [List.mem_append, List.mem_singleton]
    rintro (h1 | rfl)
    · exact ha n h h1
    · exact hn.1 h) (by omega)
  rw [List.append_nil] at this
  rw [this]
  obtain ⟨q, hq⟩ : ∃ q, k - ix.length = q + 1 := ⟨k - ix.length - 1, by omega⟩
  rw [hq]
  simp
theorem ixOf_mid {pre ix post : List Nat} {i n : Nat} (hn : (pre ++ ix).Nodup) (h : ix[i]? = some n) : ixOf (pre ++ (ix ++ post)) n = some (pre.length + i) := by
  have h1 : ixOf (pre ++ ix) n = some (pre.length + i) := ixOf_get hn (by rw [List.getElem?_append_right (by omega), Nat.add_sub_cancel_left]; exact h)
  have key : ∀ (l post : List Nat) (n i : Nat), ixOf l n = some i → ixOf (l ++ post) n = some i := by
    intro l
    induction l with
    | nil => intro post n i h; cases h
    | cons a l ih =>
      intro post n i h
      rw [List.cons_append, ixOf_cons] at *
      split at h
      · rename_i e; rw [if_pos e]; exact h
      · rename_i e
        rw [if_neg e]
        obtain ⟨y, h1, h2⟩ := ob_eq (show ob (ixOf l n) (fun i => some (i + 1)) = some i from h)
        rw [ih post n y h1]
        exact h2
  rw [← List.append_assoc]
  exact key _ post n _ h1
theorem Fam.can1 {m : Mem} {j s : Nat} {ix : List Nat} {es : List (El α)} (H : Fam E m j s ix es) (hk : ix.length < 4194000) : reachF 4194304 m [j] [] = some (j :: ix) ∧ locM m (j :: ix) (j :: ix) = some (famB 1 s es :: famM E es) := by
  refine ⟨by simpa using H.reach E (k := 4194303) [] [] (by simp) rfl (by simp) (by omega), ?_⟩
  have hb := locB_famI E (acc := j :: ix) es ix 1 s true H.len H.ok (fun i n hi => by
    have := ixOf_mid (pre := [j]) (ix := ix) (post := []) (i := i) (n := n) H.nod hi
    simpa using this)
  rw [locM_cons, H.out]
  simp only
  rw [hb, bo_some]
  have := loc_ixs E (m := m) (acc := j :: ix) (famM E es) ix [] (by rw [famM_len, H.len]) (fun i n b hi hb => ⟨H.inn i n b hi hb, fam_own E es i b hb⟩)
  rw [List.append_nil] at this
  rw [this]
  simp [famB]
theorem Fam.of_row {m : Mem} {j b s : Nat} {es : List (El α)} (ho : m[j]? = some (famB b s es)) (hi : ∀ i x, (famM E es)[i]? = some x → m[b + i]? = some x) (hj : j < b ∨ b + famN es ≤ j) (hok : ∀ e ∈ es, e.ok E) : Fam E m j s (List.range' b (famN es)) es := by
  refine ⟨by rw [famI_range]; exact ho, by simp, ?_, fun i n x h1 h2 => ?_, hok⟩
  · rw [List.nodup_cons]
    refine ⟨fun h => ?_, List.nodup_range'⟩
    rw [mem_range'] at h
    omega
  · obtain ⟨h3, h4⟩ := List.getElem?_eq_some_iff.1 h1
    simp at h3 h4
    rw [← h4]
    exact hi i x h2
theorem Fam.snoc {m m' : Mem} {j j' s : Nat} {ix ix2 : List Nat} {es : List (El α)} {e : El α} {cs : List Value} (hl : ix.length = famN es) (hok : ∀ e ∈ es, e.ok E) (he : e.ok E) (hin : ∀ (i : Nat) n b, ix[i]? = some n → (famM E es)[i]? = some b → m'[n]? = some b) (hlast : ∀ (i : Nat) n b, ix2[i]? = some n → (e.p.mem E)[i]? = some b → m'[n]? = some b) (hl2 : ix2.length = e.p.n) (hn : (j' :: (ix ++ ix2)).Nodup) (hc : cs = famI ix es ++ (e.a ++ (e.p.val (ix2.headD 0) :: e.b))) (ho : m'[j']? = some ⟨cs, s, true, true⟩) : Fam E m' j' s (ix ++ ix2) (es ++ [e]) := by
  have happ : ∀ (es : List (El α)) (ix : List Nat), ix.length = famN es → famI (ix ++ ix2) (es ++ [e]) = famI ix es ++ (e.a ++ (e.p.val (ix2.headD 0) :: e.b)) := by
    intro es
    induction es with
    | nil =>
      intro ix hl
      have : ix = [] := List.eq_nil_of_length_eq_zero hl
      subst this
      simp [famI]
    | cons x r ih =>
      intro ix hl
      rw [famN] at hl
      rw [List.cons_append, famI, famI]
      have h1 : (ix ++ ix2).drop x.p.n = ix.drop x.p.n ++ ix2 := by rw [List.drop_append_of_le_length (by omega)]
      rw [h1, ih (ix.drop x.p.n) (by rw [List.length_drop]; omega)]
      have h2 : x.p.val ((ix ++ ix2).headD 0) = x.p.val (ix.headD 0) := by
        cases hp : x.p with
        | no v => rfl
        | ow pre l post o c =>
          rw [hp] at hl
          cases ix with
          | nil => simp [Pc.n] at hl; omega
          | cons y ix => rfl
      rw [h2]
      simp
  refine ⟨by rw [happ es ix hl, ho, hc], by rw [List.length_append, famN_app, hl, hl2]; simp [famN], hn, fun i n b h1 h2 => ?_, fun x hx => ?_⟩
  · rw [famM_app] at h2
    rcases Nat.lt_or_ge i ix.length with h | h
    · rw [List.getElem?_append_left h] at h1
      rw [List.getElem?_append_left (by rw [famM_len]; omega)] at h2
      exact hin i n b h1 h2
    · rw [List.getElem?_append_right h] at h1
      rw [List.getElem?_append_right (by rw [famM_len]; omega), famM_len, ← hl] at h2
      refine hlast (i - ix.length) n b h1 ?_
      rw [show famM E [e] = e.p.mem E by simp [famM]] at h2
      exact h2
  · rcases List.mem_append.1 hx with h | h
    · exact hok x h
    · simp at h; subst h; exact he
end
end Go.Ab
namespace Go.Ab
set_option linter.unusedSimpArgs false
set_option linter.unusedVariables false
theorem in_row (hd F R : Mem) {b k i n : Nat} {x : Blk} (hb : hd.length = b) (h1 : (List.range' b k)[i]? = some n) (h2 : F[i]? = some x) : (hd ++ (F ++ R))[n]? = some x := by
  obtain ⟨h3, h4⟩ := List.getElem?_eq_some_iff.1 h1
  simp at h3 h4
  have hi := (List.getElem?_eq_some_iff.1 h2).1
  subst hb h4
  rw [List.getElem?_append_right (by omega), Nat.add_sub_cancel_left, List.getElem?_append_left hi, h2]
theorem at_row (hd F R : Mem) {n j : Nat} {x : Blk} (hn : n = hd.length + F.length + j) (h : R[j]? = some x) : (hd ++ (F ++ R))[n]? = some x := by
  subst hn
  rw [List.getElem?_append_right (by omega), List.getElem?_append_right (by omega), ← h]
  congr 1
  omega
theorem nod_row1 {b k y j : Nat} (h1 : b + k ≤ y) (h2 : b + k ≤ j) (h3 : y ≠ j) : (j :: (List.range' b k ++ [y])).Nodup := by
  rw [List.nodup_cons, List.nodup_append]
  refine ⟨fun h => ?_, List.nodup_range', by simp, fun a ha c hc => ?_⟩
  · rw [List.mem_append, mem_range', List.mem_singleton] at h
    omega
  · rw [mem_range'] at ha
    rw [List.mem_singleton] at hc
    omega
theorem nod_row0 {b k j : Nat} (h2 : b + k ≤ j) : (j :: (List.range' b k ++ [])).Nodup := by
  rw [List.append_nil, List.nodup_cons]
  refine ⟨fun h => ?_, List.nodup_range'⟩
  rw [mem_range'] at h
  omega
theorem rdB_all {C : List Value} {s n : Nat} {o : Bool} (h : C.length = n) : fzO.rdB ⟨C, s, o, true⟩ 0 n = some C := by
  subst h
  unfold fzO.rdB
  split
  · rename_i h0
    rw [List.eq_nil_of_length_eq_zero h0]
  · rw [if_pos ⟨rfl, by simp⟩]
    simp
end Go.Ab
namespace Go.Ab
set_option linter.unusedSimpArgs false
set_option linter.unusedVariables false
theorem cut_of {m M0 : Mem} {names acc : List Nat} (h1 : reachF 4194304 m names [] = some acc) (h2 : locM m acc acc = some M0) {pv vs vs0 : List Value} {J : List Value → Mem → Option VM} (hn : vs.flatMap (nmV 8) = names) (hr : mapO (rnV 8 inert (ixOf acc)) vs = some vs0) : cutK 0 m pv vs J = J vs0 M0 := by
  rw [cutK_eq, show List.range 0 ++ vs.flatMap (nmV 8) = names by rw [hn]; rfl, h1, bo_some, if_pos ⟨by simp, by simp⟩, hr, bo_some, h2, bo_some]
theorem ret_of {m M0 : Mem} {names acc : List Nat} (h1 : reachF 4194304 m names [] = some acc) (h2 : locM m acc acc = some M0) {pv : List Value} {v v0 : Value} (hn : nmV 8 v = names) (hr : rnV 8 inert (ixOf acc) v = some v0) : retK 0 m pv v = some (v0, M0) := by
  rw [retK_eq, show List.range 0 ++ nmV 8 v = names by rw [hn]; rfl, h1, bo_some, if_pos ⟨by simp, by simp⟩, hr, bo_some, h2, bo_some]
theorem has_of {m M0 : Mem} {acc : List Nat} {v v0 : Value} (h1 : reachF 4194304 m (nmV 8 v) [] = some acc) (h2 : locM m acc acc = some M0) (hr : rnV 8 inert (ixOf acc) v = some v0) : Has m v acc v0 M0 := ⟨h1, hr, h2⟩
theorem reach_one {k n : Nat} {m : Mem} {b : Blk} {r acc l : List Nat} (hb : m[n]? = some b) (hn : n ∉ acc) (hl : nmB b = l) : reachF (k + 1) m (n :: r) acc = reachF k m (r ++ l) (acc ++ [n]) := by
  rw [reach_cons, if_neg (by simpa using hn), hb]
  simp only [hl]
theorem nmB_inert {b : Blk} (h : b.cells.all inert = true) : nmB b = [] := by unfold nmB; rw [if_pos h]
theorem locB_inert {b : Blk} {acc : List Nat} (h : b.cells.all inert = true) : locB acc b = some b := by unfold locB; rw [if_pos h]
theorem loc_one {m : Mem} {acc r : List Nat} {n : Nat} {b b0 : Blk} (hb : m[n]? = some b) (hl : locB acc b = some b0) : locM m acc (n :: r) = bo (fun bs => some (b0 :: bs)) (locM m acc r) := by
  rw [locM_cons, hb]
  simp only [hl, bo_some]
section
variable {α : Type} (E : Enc α)
theorem Fam.nmB {m : Mem} {j s : Nat} {ix : List Nat} {es : List (El α)} (H : Fam E m j s ix es) : Ab.nmB ⟨famI ix es, s, true, true⟩ = ix := nmB_famI E es ix s true H.len H.ok
theorem Fam.nodi {m : Mem} {j s : Nat} {ix : List Nat} {es : List (El α)} (H : Fam E m j s ix es) : ix.Nodup := (List.nodup_cons.1 H.nod).2
theorem Fam.tail {m : Mem} {j s k : Nat} {ix : List Nat} {es : List (El α)} (H : Fam E m j s ix es) (acc : List Nat) (ha : ∀ n ∈ ix, n ∉ acc) (hk : ix.length < k) : reachF k m ix acc = some (acc ++ ix) := by
  have := reach_ixs E (m := m) ix k acc [] H.own H.nodi ha (by omega)
  rw [List.append_nil] at this
  rw [this]
  obtain ⟨q, hq⟩ : ∃ q, k - ix.length = q + 1 := ⟨k - ix.length - 1, by omega⟩
  rw [hq]
  rfl
theorem Fam.locI {m : Mem} {j s : Nat} {ix acc : List Nat} {es : List (El α)} (H : Fam E m j s ix es) : locM m acc ix = some (famM E es) := by
  have := loc_ixs E (m := m) (acc := acc) (famM E es) ix [] (by rw [famM_len, H.len]) (fun i n b hi hb => ⟨H.inn i n b hi hb, fam_own E es i b hb⟩)
  rw [List.append_nil] at this
  rw [this]
  simp
theorem Fam.locO {m : Mem} {j s : Nat} {ix pre : List Nat} {es : List (El α)} (H : Fam E m j s ix es) (hn : (pre ++ ix).Nodup) : locB (pre ++ ix) ⟨famI ix es, s, true, true⟩ = some (famB pre.length s es) := by
  refine locB_famI E (acc := pre ++ ix) es ix pre.length s true H.len H.ok fun i n hi => ?_
  have := ixOf_mid (pre := pre) (ix := ix) (post := []) (i := i) (n := n) hn hi
  simpa using this
theorem Fam.can1y {β : Type} (D : Enc β) {m : Mem} {j s y : Nat} {ix : List Nat} {es : List (El α)} {l : List β} (H : Fam E m j s ix es) (hy : m[y]? = some (ownB D l)) (hn : (j :: y :: ix).Nodup) (hk : ix.length < 4194000) : reachF 4194304 m [j, y] [] = some (j :: y :: ix) ∧ locM m (j :: y :: ix) (j :: y :: ix) = some (famB 2 s es :: ownB D l :: famM E es) := by
  obtain ⟨h1, h2⟩ := List.nodup_cons.1 hn
  obtain ⟨h3, h4⟩ := List.nodup_cons.1 h2
  simp only [List.mem_cons, not_or] at h1
  constructor
  · rw [reach_one H.out (by simp) H.nmB, List.singleton_append, reach_one hy (by simpa using fun e => h1.1 e.symm) (nmB_own D l), List.append_nil]
    rw [H.tail E _ (fun n hm h => by simp at h; rcases h with rfl | rfl; exact h1.2 hm; exact h3 hm) (by omega)]
    rfl
  · rw [loc_one (acc := j :: y :: ix) H.out (H.locO E (pre := [j, y]) hn), loc_one hy (locB_own D _ l), H.locI E]
    rfl
theorem Fam.can3a {m : Mem} {p r j s : Nat} {pb rb : Blk} {ix : List Nat} {es : List (El α)} (H : Fam E m j s ix es) (hp : m[p]? = some pb) (hpb : pb.cells.all inert = true) (hr : m[r]? = some rb) (hrb : rb.cells.all inert = true) (hn : (p :: r :: j :: ix).Nodup) (hk : ix.length < 4194000) : reachF 4194304 m [p, r, j] [] = some (p :: r :: j :: ix) ∧ locM m (p :: r :: j :: ix) (p :: r :: j :: ix) = some (pb :: rb :: famB 3 s es :: famM E es) := by
  obtain ⟨h1, h2⟩ := List.nodup_cons.1 hn
  obtain ⟨h3, h4⟩ := List.nodup_cons.1 h2
  obtain ⟨h5, h6⟩ := List.nodup_cons.1 h4
  simp only [List.mem_cons, not_or] at h1 h3
  constructor
  · rw [reach_one hp (by simp) (nmB_inert hpb), List.append_nil, reach_one hr (by simpa using fun e => h1.1 e.symm) (nmB_inert hrb), List.append_nil, reach_one H.out (by simp; exact ⟨fun e => h1.2.1 e.symm, fun e => h3.1 e.symm⟩) H.nmB, List.nil_append]
    rw [H.tail E _ (fun n hm h => by simp at h; rcases h with rfl | rfl | rfl; exact h1.2.2 hm; exact h3.2 hm; exact h5 hm) (by omega)]
    rfl
  · rw [loc_one hp (locB_inert hpb), loc_one hr (locB_inert hrb), loc_one (acc := p :: r :: j :: ix) H.out (H.locO E (pre := [p, r, j]) hn), H.locI E]
    rfl
end
end Go.Ab
namespace Go.Ab
set_option linter.unusedSimpArgs false
set_option linter.unusedVariables false
section
variable {α : Type} (E : Enc α)
end
end Go.Ab
namespace Go.Ab
set_option linter.unusedSimpArgs false
set_option linter.unusedVariables false
def nms (S : Mem) : Nat := (S.map fun b => (nmB b).length).sum
theorem nms_cons (b : Blk) (B : Mem) : nms (b :: B) = (nmB b).length + nms B := by simp [nms]
theorem reach_cl : ∀ (S A : Mem) (r : List Nat) (K : Nat), (∀ n ∈ r, n < (A ++ S).length) → (∀ b ∈ S, ∀ n ∈ nmB b, n < (A ++ S).length) → S.length + r.length + nms S < K → reachF K (A ++ S) (List.range' A.length S.length ++ r) (List.range A.length) = some (List.range (A ++ S).length)
  | [], A, r, K, hr, hb, hK => by
    rw [List.append_nil] at *
    rw [List.length_nil, List.range'_zero, List.nil_append]
    refine reach_skip r _ K (fun n hn => List.mem_range.2 (hr n hn)) (by simp at hK; omega)
  | b :: S, A, r, K, hr, hb, hK => by
    obtain ⟨K, rfl⟩ : ∃ q, K = q + 1 := ⟨K - 1, by omega⟩
    have e : A ++ b :: S = (A ++ [b]) ++ S := by simp
    have h0 : (A ++ b :: S)[A.length]? = some b := by simp
    rw [List.length_cons, List.range'_succ, List.cons_append, reach_cons, if_neg (by simp), h0]
    simp only
    rw [nms_cons, List.length_cons] at hK
    have := reach_cl S (A ++ [b]) (r ++ nmB b) K (fun n hn => by
      rw [← e]
      rcases List.mem_append.1 hn with h | h
      · exact hr n h
      · exact hb b (by simp) n h) (fun x hx n hn => by rw [← e]; exact hb x (by simp [hx]) n hn) (by rw [List.length_append]; omega)
    rw [List.length_append, List.length_singleton, ← e] at this
    rw [List.append_assoc, show List.range A.length ++ [A.length] = List.range (A.length + 1) from List.range_succ.symm]
    exact this
def OkM (m : Mem) : Prop := ∀ b ∈ m, b.live = true ∧ locB (List.range m.length) b = some b ∧ ∀ n ∈ b.cells.flatMap (nmV 8), n < m.length
theorem OkM.reach {m : Mem} (H : OkM m) (r : List Nat) (hr : ∀ n ∈ r, n < m.length) (hK : m.length + r.length + nms m < 4194304) : reachF 4194304 m (List.range m.length ++ r) [] = some (List.range m.length) := by
  have := reach_cl m [] r 4194304 (by simpa using hr) (fun b hb n hn => by
    have h := (H b hb).2.2
    unfold nmB at hn
    split at hn
    · cases hn
    · split at hn
      · exact h n hn
      · cases hn) (by omega)
  simp only [List.nil_append, List.length_nil, List.range_zero] at this
  rw [← List.range_eq_range'] at this
  exact this
theorem OkM.loc {m : Mem} (H : OkM m) : locM m (List.range m.length) (List.range m.length) = some m := by
  refine locM_mk (by simp) fun i b hi => ?_
  have hl := (List.getElem?_eq_some_iff.1 hi).1
  exact ⟨i, b, List.getElem?_range hl, hi, (H b (List.mem_of_getElem? hi)).2.1⟩
theorem OkM.ent {m : Mem} (H : OkM m) : entC m.length m = true := by
  unfold entC
  rw [List.all_eq_true]
  intro n hn
  have hl := List.mem_range.1 hn
  rw [List.getElem?_eq_getElem hl]
  obtain ⟨h1, h2, h3⟩ := H m[n] (List.getElem_mem hl)
  simp only [h1, Bool.true_and]
  rw [List.all_eq_true]
  exact fun j hj => by simpa using h3 j hj
section
variable {α : Type} (E : Enc α)
theorem own_ok {k : Nat} (l : List α) : (ownB E l).live = true ∧ locB (List.range k) (ownB E l) = some (ownB E l) ∧ ∀ n ∈ (ownB E l).cells.flatMap (nmV 8), n < k := ⟨rfl, locB_own E _ l, by rw [ownB_cells, nm_scal (cellsE_all E l)]; intro n hn; cases hn⟩
end
end Go.Ab
namespace Go.Ab
set_option linter.unusedSimpArgs false
set_option linter.unusedVariables false
noncomputable def ncall (X : List Value → Mem → Option VM) (args : List Value) (m : Mem) : Option VM :=
  ob (mapO (fz 64 m) args) fun as => ob (X as []) fun r => ob (fz 64 r.2 r.1) fun v => ob (mapF (frz 64 m) args) fun p => some (v, sealM m p.2)
theorem ncall_ok {C : Cfg} (h0 : C.G = 0) {f : FuncId} {X : List Value → Mem → Option VM} (hX : OkX C f X) : OkC C f (ncall X) := by
  intro args m v m' h
  obtain ⟨as, h1, h2⟩ := ob_eq h
  obtain ⟨r, h3, h4⟩ := ob_eq h2
  obtain ⟨w, h5, h6⟩ := ob_eq h4
  obtain ⟨p, h7, h8⟩ := ob_eq h6
  cases h8
  obtain ⟨ns, hfr⟩ := mapO_frz (fz_sound m 64) h1
  have ht : m.take C.G = [] := by rw [h0]; rfl
  obtain ⟨ns2, hfr2⟩ := fz_sound _ _ _ _ h5
  rw [hfr] at h7
  cases h7
  exact Con.still (ns := ns) (by rw [ht]; exact hX as [] r.1 r.2 h3 .nil (fzL_low h1)) hfr hfr2 (by omega) (by rw [ht]; rfl)
end Go.Ab
namespace Go.Ab
set_option linter.unusedSimpArgs false
set_option linter.unusedVariables false
def lvN (m : Mem) (n : Nat) : Bool := match m[n]? with
  | some c => c.live && c.cells.all inert
  | none => false
section
variable {C : Cfg} {B : Nat} {ι : Emb} {m : Mem} {w : World}
end
end Go.Ab
namespace Go.Ab
set_option linter.unusedSimpArgs false
set_option linter.unusedVariables false
def dep : Nat → Value → Bool
  | 0, _ => false
  | k + 1, v => match v with
    | .agg cs => cs.toList.all (dep k)
    | .tuple cs => cs.toList.all (dep k)
    | _ => true
noncomputable def qB (m : Mem) (p nmd : Bool) (b : Blk) : Option Blk := if p = true then (if b.live = true ∧ nmd = false ∧ b.cells.all flat = true ∧ (b.cells.flatMap (nmV 8)).all (lvN m) = true then bo (fun cs => some ⟨cs, b.es, b.own, true⟩) (mapO (fz 64 m) b.cells) else none) else if b.cells.all inert = true then some ⟨b.cells, b.es, b.own && !nmd, b.live⟩ else none
def qN (ps : Nat → Bool) : Nat → List Blk → List Nat
  | _, [] => []
  | n, b :: r => (if ps n = true then b.cells.flatMap (nmV 8) else []) ++ qN ps (n + 1) r
noncomputable def qL (m : Mem) (ps nm : Nat → Bool) : Nat → List Blk → Option Mem
  | _, [] => some []
  | n, b :: r => bo (fun b' => bo (fun bs => some (b' :: bs)) (qL m ps nm (n + 1) r)) (qB m (ps n) (nm n) b)
end Go.Ab
namespace Go.Ab
set_option linter.unusedSimpArgs false
set_option linter.unusedVariables false
def znm : List Blk → List Nat
  | [] => []
  | b :: r => (if b.cells.all inert = true then [] else b.cells.flatMap (nmV 8)) ++ znm r
noncomputable def zB (m : Mem) (k : Nat) (ns : List Nat) (n : Nat) (b : Blk) : Option Blk := if b.cells.all inert = true then some ⟨b.cells, b.es, b.own && !(ns.contains n), b.live⟩ else if b.live = true ∧ b.cells.all flat = true ∧ (b.cells.flatMap (nmV 8)).all (fun n => lvN m n && decide (k ≤ n)) = true then bo (fun cs => some ⟨cs, b.es, b.own && !(ns.contains n), true⟩) (mapO (fz 64 m) b.cells) else none
noncomputable def zL (m : Mem) (k : Nat) (ns : List Nat) : Nat → List Blk → Option Mem
  | _, [] => some []
  | n, b :: r => bo (fun b' => bo (fun bs => some (b' :: bs)) (zL m k ns (n + 1) r)) (zB m k ns n b)
noncomputable def zX (X : List Value → Mem → Option VM) (args : List Value) (m : Mem) : Option VM :=
  bo (fun r => bo (fun ms => some (r.1, r.2.take m.length ++ ms)) (zL r.2 m.length (znm (r.2.drop m.length)) m.length (r.2.drop m.length))) (X args m)
@[simp] theorem dep_agg (k : Nat) (cs : Array Value) : dep (k + 1) (.agg cs) = cs.toList.all (dep k) := (rfl)
@[simp] theorem dep_tuple (k : Nat) (cs : Array Value) : dep (k + 1) (.tuple cs) = cs.toList.all (dep k) := (rfl)
@[simp] theorem dep_int (k : Nat) (q : IntKind) (n : Int) : dep (k + 1) (.int q n) = true := (rfl)
@[simp] theorem dep_bool (k : Nat) (b : Bool) : dep (k + 1) (.bool b) = true := (rfl)
@[simp] theorem dep_sl (k : Nat) (p : Option Addr) (a b : Nat) : dep (k + 1) (.slice p a b) = true := (rfl)
@[simp] theorem dep_ptr (k : Nat) (p : Option Addr) : dep (k + 1) (.pointer p) = true := (rfl)
@[simp] theorem dep_iface (k n : Nat) (v : Value) : dep (k + 1) (.iface n v) = true := (rfl)
@[simp] theorem dep_str (k : Nat) (s : ByteArray) : dep (k + 1) (.string s) = true := (rfl)
@[simp] theorem dep_frS (k : Nat) {α : Type} (E : Enc α) (l : List α) : dep (k + 1) (frS E l) = true := (rfl)
@[simp] theorem lvN_eq (m : Mem) (n : Nat) : lvN m n = match m[n]? with
  | some c => c.live && c.cells.all inert
  | none => false := (rfl)
@[simp] theorem qN_nil (ps : Nat → Bool) (n : Nat) : qN ps n [] = [] := (rfl)
@[simp] theorem qN_cons (ps : Nat → Bool) (n : Nat) (b : Blk) (r : List Blk) : qN ps n (b :: r) = (if ps n = true then b.cells.flatMap (nmV 8) else []) ++ qN ps (n + 1) r := (rfl)
@[simp] theorem qL_nil (m : Mem) (ps nm : Nat → Bool) (n : Nat) : qL m ps nm n [] = some [] := (rfl)
@[simp] theorem qL_cons (m : Mem) (ps nm : Nat → Bool) (n : Nat) (b : Blk) (r : List Blk) : qL m ps nm n (b :: r) = bo (fun b' => bo (fun bs => some (b' :: bs)) (qL m ps nm (n + 1) r)) (qB m (ps n) (nm n) b) := (rfl)
@[simp] theorem qB_eq (m : Mem) (p nmd : Bool) (b : Blk) : qB m p nmd b = if p = true then (if b.live = true ∧ nmd = false ∧ b.cells.all flat = true ∧ (b.cells.flatMap (nmV 8)).all (lvN m) = true then bo (fun cs => some ⟨cs, b.es, b.own, true⟩) (mapO (fz 64 m) b.cells) else none) else if b.cells.all inert = true then some ⟨b.cells, b.es, b.own && !nmd, b.live⟩ else none := (rfl)
@[simp] theorem znm_nil : znm [] = [] := (rfl)
@[simp] theorem znm_cons (b : Blk) (r : List Blk) : znm (b :: r) = (if b.cells.all inert = true then [] else b.cells.flatMap (nmV 8)) ++ znm r := (rfl)
@[simp] theorem zL_nil (m : Mem) (k : Nat) (ns : List Nat) (n : Nat) : zL m k ns n [] = some [] := (rfl)
@[simp] theorem zL_cons (m : Mem) (k : Nat) (ns : List Nat) (n : Nat) (b : Blk) (r : List Blk) : zL m k ns n (b :: r) = bo (fun b' => bo (fun bs => some (b' :: bs)) (zL m k ns (n + 1) r)) (zB m k ns n b) := (rfl)
@[simp] theorem zB_eq (m : Mem) (k : Nat) (ns : List Nat) (n : Nat) (b : Blk) : zB m k ns n b = if b.cells.all inert = true then some ⟨b.cells, b.es, b.own && !(ns.contains n), b.live⟩ else if b.live = true ∧ b.cells.all flat = true ∧ (b.cells.flatMap (nmV 8)).all (fun n => lvN m n && decide (k ≤ n)) = true then bo (fun cs => some ⟨cs, b.es, b.own && !(ns.contains n), true⟩) (mapO (fz 64 m) b.cells) else none := (rfl)
end Go.Ab
namespace Go.Ab
set_option linter.unusedSimpArgs false
set_option linter.unusedVariables false
noncomputable section
theorem Run.weakT {C : Cfg} {k : Nat} {fn : Func} {todo : List Item} {T T0 : Tm} {m m' : Mem} {v : Value} (hT : ∀ t v, T0.lookup t = some v → T.lookup t = some v) (h : Run C k fn todo T0 m v m') : Run C k fn todo T m v m' := by
  intro B ι w a b cs R hG hB hTR ht hk hN hd
  exact h B ι w a b cs R hG hB (fun t v q => hTR t v (hT t v q)) ht hk hN hd
theorem GrowK.self (k : Nat) (m : Mem) : GrowK k m m := fun n b _ hb => ⟨b, hb, rfl, id, id⟩
theorem zip_look : ∀ {live : List Tmp} {vs : List Value} {t : Tmp} {v : Value}, (live.zip vs).lookup t = some v → ∃ i : Nat, live[i]? = some t ∧ vs[i]? = some v
  | [], vs, t, v, h => by simp at h
  | a :: live, [], t, v, h => by simp at h
  | a :: live, x :: vs, t, v, h => by
    rw [List.zip_cons_cons, List.lookup_cons] at h
    split at h
    · rename_i e
      cases h
      have : t = a := by simpa using e
      subst this
      exact ⟨0, rfl, rfl⟩
    · obtain ⟨i, h1, h2⟩ := zip_look h
      exact ⟨i + 1, h1, h2⟩
def exD (C : Cfg) (cf : CallF) (fn : Func) (k : Nat) (LL : List (Nat × List Tmp)) (J : Nat → List Value → Mem → Option VM) : Nat → List Item → Tm → Mem → Option VM
  | 0, _, _, _ => none
  | j + 1, todo, T, m => match todo with
    | [] => resK C T m fn.results.toList fun vs => some (tupOf vs, m)
    | .inBlock _ :: r => exD C cf fn k LL J j r T m
    | .inLoop c :: _ => ob (LL.lookup (labC c)) fun live => evT T live fun vs => J (labC c) vs m
    | .code c :: r => match c with
      | .skip => exD C cf fn k LL J j r T m
      | .ret => resK C T m fn.results.toList fun vs => some (tupOf vs, m)
      | .seq a b => exD C cf fn k LL J j (.code a :: .code b :: r) T m
      | .block id c => exD C cf fn k LL J j (.code c :: .inBlock id :: r) T m
      | .loop c => ob (LL.lookup (labC c)) fun live => evT T live fun vs => J (labC c) vs m
      | .exit id => match exitTo id r with
        | some r' => exD C cf fn k LL J j r' T m
        | none => none
      | .cond c a b => ob (ev C T c) fun v => brX v (exD C cf fn k LL J j (.code a :: r) T m) (exD C cf fn k LL J j (.code b :: r) T m)
      | .region _ ops draw => exOps C cf ops.toList ops.toList T m [] fun T' m' E => match draw && !(pairsOf C ops.toList).isEmpty with
        | true => gP (stbL ((pairsOf C ops.toList).map fun p => ((E.getD p.1 ev0).name, (E.getD p.2 ev0).before, (E.getD p.2 ev0).after))) (exD C cf fn k LL J j r T' m')
        | false => exD C cf fn k LL J j r T' m'
      | _ => none
    | _ => none
section
variable {C : Cfg} {cf : CallF} {fn : Func} {k : Nat} {LL : List (Nat × List Tmp)} {J : Nat → List Value → Mem → Option VM}
variable (hC : CfgOK C) (hcf : CallOK C cf) {b : Code} (hJ : ∀ h ∈ heads b [], GoodL C k fn LL J h)
include hC hcf hJ
theorem exD_sound : ∀ (j : Nat) (todo : List Item) (T : Tm) (m : Mem) (r : VM), exD C cf fn k LL J j todo T m = some r → k ≤ m.length → (∀ i ∈ todo, itemOk C fn i = true) → (∀ h ∈ headsI todo, h ∈ heads b []) → RunG C k fn todo T m r := by
  intro j
  induction j with
  | zero => intro todo T m r h; simp [exD] at h
  | succ j ih =>
    intro todo T m r h hkm hok hhd
    have lift : ∀ {todo' : List Item}, RunG C k fn todo' T m r → (∀ {v m'}, Run C k fn todo' T m v m' → Run C k fn todo T m v m') → RunG C k fn todo T m r := fun g f => ⟨f g.1, g.2⟩
    have lp : ∀ {c : Code} {q : List Item}, (.code c :: .inLoop c :: q) ∈ heads b [] → (ob (LL.lookup (labC c)) fun live => evT T live fun vs => J (labC c) vs m) = some r → RunG C k fn (.code c :: .inLoop c :: q) T m r := by
      intro c q hmem h
      obtain ⟨live, h1, h2⟩ := ob_eq h
      obtain ⟨vs, h3, h4, h5⟩ := evT_sound h2
      have g := hJ _ hmem live vs m r h1 h3 hkm h5
      exact ⟨Run.weakT (fun t v hl => by
        obtain ⟨i, e1, e2⟩ := zip_look hl
        exact h4 i t v e1 e2) g.1, g.2⟩
    have rt : ∀ {vs : List Value}, resL C m T fn.results.toList = some vs → some (tupOf vs, m) = some r → (∀ v, resultA C fn m T = some v → Run C k fn todo T m v m) → RunG C k fn todo T m r := by
      intro vs h1 h2 h3
      cases h2
      exact ⟨h3 _ (tup_res h1), GrowK.self k m⟩
    unfold exD at h
    split at h
    · obtain ⟨vs, h1, h2⟩ := resK_sound h
      exact rt h1 h2 fun v hv => .end hC hv
    · exact lift (ih _ _ _ _ h hkm (fun i hi => hok i (List.mem_cons_of_mem _ hi)) (fun x hx => hhd x hx)) .inBlock
    · rename_i c r'
      exact lift (lp (hhd _ (by simp [headsI])) h) .inLoop
    · rename_i c r'
      have hc := hok (.code c) (List.mem_cons_self ..)
      have hr : ∀ i ∈ r', itemOk C fn i = true := fun i hi => hok i (List.mem_cons_of_mem _ hi)
      have cons : ∀ {x : Item} {l : List Item}, itemOk C fn x = true → (∀ i ∈ l, itemOk C fn i = true) → ∀ i ∈ x :: l, itemOk C fn i = true := by
        intro x l h1 h2 i hi
        rw [List.mem_cons] at hi
        rcases hi with rfl | hi
        · exact h1
        · exact h2 i hi
      have hd1 : ∀ x ∈ heads c r', x ∈ heads b [] := fun x hx => hhd x (by simp [headsI, hx])
      have hd2 : ∀ x ∈ headsI r', x ∈ heads b [] := fun x hx => hhd x (by simp [headsI, hx])
      split at h
      · exact lift (ih _ _ _ _ h hkm hr hd2) .skip
      · obtain ⟨vs, h1, h2⟩ := resK_sound h
        exact rt h1 h2 fun v hv => .ret hC hv
      · rename_i a b'
        have hc' : codeOk C fn a = true ∧ codeOk C fn b' = true := by
          have : (codeOk C fn a && codeOk C fn b') = true := hc
          simpa using this
        refine lift (ih _ _ _ _ h hkm (cons hc'.1 (cons hc'.2 hr)) (fun x hx => ?_)) .seq
        simp only [headsI, List.mem_append] at hx
        simp only [heads, List.mem_append] at hd1
        rcases hx with hx | hx | hx
        · exact hd1 x (.inl hx)
        · exact hd1 x (.inr hx)
        · exact hd2 x hx
      · rename_i id c'
        refine lift (ih _ _ _ _ h hkm (cons hc (cons rfl hr)) (fun x hx => ?_)) .block
        simp only [headsI, List.mem_append] at hx
        simp only [heads] at hd1
        rcases hx with hx | hx
        · exact hd1 x hx
        · exact hd2 x hx
      · rename_i c'
        refine lift (lp (hd1 _ (by simp [heads])) h) .loop
      · rename_i id
        split at h
        · rename_i r2 he
          refine lift (ih _ _ _ _ h hkm (fun i hi => hr i (exitTo_mem he i hi)) (fun x hx => hd2 x ?_)) (.exit he)
          have key : ∀ {q q2 : List Item}, exitTo id q = some q2 → ∀ x ∈ headsI q2, x ∈ headsI q := by
            intro q
            induction q with
            | nil => intro q2 h; simp [exitTo] at h
            | cons i q ihq =>
              intro q2 h x hx
              have up : ∀ {y}, y ∈ headsI q → y ∈ headsI (i :: q) := by
                intro y hy
                cases i <;> simp [headsI, hy]
              unfold exitTo at h
              split at h
              · rename_i e
                cases e
                split at h
                · cases h; exact up hx
                · exact up (ihq h x hx)
              · rename_i e
                cases e
                exact up (ihq h x hx)
              · rename_i e
                cases e
          exact key he x hx
        · cases h
      · rename_i c' a b'
        have hc' : codeOk C fn a = true ∧ codeOk C fn b' = true := by
          have : (codeOk C fn a && codeOk C fn b') = true := hc
          simpa using this
        simp only [heads, List.mem_append] at hd1
        obtain ⟨v, h1, h2⟩ := ob_eq h
        unfold brX at h2
        split at h2
        · rename_i t
          split at h2
          · rename_i ht
            subst ht
            refine lift (ih _ _ _ _ h2 hkm (cons hc'.1 hr) (fun x hx => ?_)) (.tt h1)
            simp only [headsI, List.mem_append] at hx
            rcases hx with hx | hx
            · exact hd1 x (.inl hx)
            · exact hd2 x hx
          · rename_i ht
            have ht : t = false := by simpa using ht
            subst ht
            refine lift (ih _ _ _ _ h2 hkm (cons hc'.2 hr) (fun x hx => ?_)) (.ff h1)
            simp only [headsI, List.mem_append] at hx
            rcases hx with hx | hx
            · exact hd1 x (.inr hx)
            · exact hd2 x hx
        · cases h2
      · rename_i id opsA draw
        have hreg : regOk C fn.ntmps opsA.toList draw = true := hc
        unfold regOk at hreg
        simp only [Bool.and_eq_true, Bool.or_eq_true, Bool.not_eq_true'] at hreg
        obtain ⟨E, T', m', h1, h2⟩ := exOps_sound h
        simp only [List.nil_append] at h2
        have hgr := aOps_grows (call_grow hcf) h1
        have hkm' : k ≤ m'.length := Nat.le_trans hkm hgr.1
        have fin : ∀ (_ : draw = true → Stable C opsA.toList E), exD C cf fn k LL J j r' T' m' = some r → RunG C k fn (.code (.region id opsA draw) :: r') T m r := by
          intro hst h3
          have g := ih _ _ _ _ h3 hkm' hr hd2
          refine ⟨Run.region hC hcf (T1 := T') (m1 := m') ?_ g.1, .of hgr g.2⟩
          unfold aRegion
          rw [if_pos hreg.1, h1]
          simp only
          cases draw with
          | false => rfl
          | true =>
            rw [if_pos rfl, if_pos]
            exact ⟨by simpa using hreg.2, hst rfl⟩
        split at h2
        · obtain ⟨h3, h4⟩ := gP_eq h2
          exact fin (fun _ => stable_stb h3) h4
        · rename_i hb
          refine fin (fun hd => ?_) h2
          rw [hd] at hb
          have : (pairsOf C opsA.toList).isEmpty = true := by simpa using hb
          intro p hp
          rw [List.isEmpty_iff] at this
          rw [this] at hp
          cases hp
      · cases h
    · cases h
end
theorem OkX.of_exD {C : Cfg} {cf : CallF} {fn : Func} {f : FuncId} {c : Code} {np : Nat} {LL : List (Nat × List Tmp)} {J : Nat → Nat → List Value → Mem → Option VM} {X : List Value → Mem → Option VM} (hC : CfgOK C) (h0 : C.G = 0)
    (hg : C.P.funcs[f]? = some fn) (hb : fn.body = some c) (hl : np ≤ fn.ntmps) (hn : (fn.name == "runtime.NumGoroutine") = false) (hok : codeOk C fn c = true) (hcf : CallOK C cf)
    (hJ : ∀ k, ∀ h ∈ heads c [], GoodL C k fn LL (J k) h)
    (hX : ∀ args m r, X args m = some r → args.length = np ∧ exD C cf fn m.length LL (J m.length) 400 [.code c] (argsT 0 args) m = some r) : OkX C f X := by
  intro args m v m' h hm hlow
  obtain ⟨h1, h2⟩ := hX _ _ _ h
  have g := exD_sound hC hcf (hJ m.length) 400 _ _ _ _ h2 (Nat.le_refl _) (fun i hi => by
    simp only [List.mem_singleton] at hi
    subst hi
    exact hok) (fun x hx => by simpa [headsI] using hx)
  have hlen : m.length ≤ m'.length := by
    rcases Nat.eq_zero_or_pos m.length with h3 | h3
    · omega
    · obtain ⟨b', h4, _⟩ := g.2 (m.length - 1) _ (by omega) (List.getElem?_eq_getElem (by omega))
      have := (List.getElem?_eq_some_iff.1 h4).1
      simp only at this
      omega
  refine Con.of_run hg hb (by omega) hn (by omega) ⟨hlen, fun k b hk => ?_⟩ hm hlow g.1
  exact g.2 k b (List.getElem?_eq_some_iff.1 hk).1 hk
theorem goodD_succ {C : Cfg} {cf : CallF} {k n i l : Nat} {fn : Func} {LL : List (Nat × List Tmp)} {J J1 : Nat → List Value → Mem → Option VM} {live : List Tmp} (hC : CfgOK C) (h0 : C.G = 0) (hcf : CallOK C cf) {c : Code} (hb : fn.body = some c) (hok : codeOk C fn c = true)
    (hn : (heads c []).length = n) (ih : ∀ i, i < n → GoodL C k fn LL J (atLoop fn i)) (hl : labI (atLoop fn i) = l) (hlive : LL.lookup l = some live)
    (hX : ∀ vs m r, vs.length = live.length → J1 l vs m = some r → exD C cf fn k LL J 400 (atLoop fn i) (live.zip vs) m = some r) : GoodL C k fn LL J1 (atLoop fn i) := by
  intro live' vs m r h1 h2 h3 h4
  rw [hl] at h1 h4
  rw [hlive] at h1
  cases h1
  refine exD_sound hC hcf (allLoops hb hn ih) 400 _ _ _ _ (hX vs m r h2 h4) h3 (atLoop_ok hb hok i) ?_
  intro x hx
  unfold atLoop at hx
  rw [hb] at hx
  simp only [List.getD_eq_getElem?_getD] at hx
  cases hg : (heads c [])[i]? with
  | none => rw [hg] at hx; simp [headsI] at hx
  | some q =>
    rw [hg] at hx
    simp only [Option.getD_some] at hx
    rcases heads_sub c [] q (List.mem_of_getElem? hg) x hx with h | h
    · exact h
    · simp [headsI] at h
def dcall (X : List Value → Mem → Option VM) (args : List Value) (m : Mem) : Option VM := gP (Closed m ∧ RNL inert (low m.length) args args) (X args m)
theorem dcall_ok {C : Cfg} (h0 : C.G = 0) {f : FuncId} {X : List Value → Mem → Option VM} (hX : OkX C f X) : OkC C f (dcall X) := by
  intro args m v m' h
  obtain ⟨⟨h1, h2⟩, h3⟩ := gP_eq h
  exact hX args m v m' h3 h1 h2
theorem dcall_eq {X : List Value → Mem → Option VM} {args : List Value} {m : Mem} (h1 : Closed m) (h2 : RNL inert (low m.length) args args) : dcall X args m = X args m := gP_pos ⟨h1, h2⟩ _
@[reducible] def Cfg.l0 (C : Cfg) : Cfg := ⟨C.P, C.ty, C.G, C.eqs, C.still, true⟩
theorem eqF_l0 (C : Cfg) : ∀ (fs : List (Nat × Nat)) (xs ys : Array Value), eqF C.l0 fs xs ys = eqF C fs xs ys
  | [], xs, ys => rfl
  | (off, ft) :: fs, xs, ys => by
    unfold eqF
    rw [eqF_l0 C fs]
theorem CfgOK.l0 {C : Cfg} (h : CfgOK C) : CfgOK C.l0 where
  ty := h.ty
  mixed := h.mixed
  eqs t fs ht hd xs ys b w he := h.eqs t fs ht hd xs ys b w (by rw [eqF_l0] at he; exact he)
theorem Con.l0 {C : Cfg} {f : FuncId} {args : List Value} {m m' : Mem} {v : Value} (h : Con C.l0 f args m v m') : Con C f args m v m' := h
def cloneV0 (sz : Nat) (m : Mem) (y : Value) : Option VM :=
  match y with
  | .iface len (.agg cs) => if len = 0 then some (.slice none 0 0, m) else if (cs.size = len * sz ∧ len < 1000000000) ∧ cs.toList.all hard = true then some (.slice (some ⟨m.length, 0, none⟩) len len, m ++ [⟨cs.toList, sz, true, true⟩]) else none
  | _ => none
def cloneC0 (sz : Nat) : List Value → Mem → Option VM
  | [x], m => bo (fun y => cloneV0 sz m y) (fz 64 m x)
  | _, _ => none
theorem empty_con0 {C : Cfg} (h0 : C.G = 0) {f : FuncId} {X : List Value → Mem → Option VM} (hX : OkX C f X) {x : Value} (hin : inert x = true) (hfr : ∀ k m, frz (k + 1) m x = some (x, [])) (h : X [x] [] = some (.slice none 0 0, [])) (m : Mem) : Con C f [x] m (.slice none 0 0) m := by
  have ht : m.take C.G = [] := by rw [h0]; rfl
  have hc := hX [x] [] _ _ h .nil (.leaf (by simp [hin]))
  have := Con.own (m := m) (args := [x]) (as := [x]) (ns := []) (v0 := .slice none 0 0) (v := .slice none 0 0) (by rw [ht]; exact hc) (mapF_id (fun z hz => by simp at hz; subst hz; exact hfr 63 m)) (by omega) (by rw [ht]; rfl) [] [] (by simp) trivial (.inert _ rfl)
  rwa [List.append_nil] at this
theorem cloneC0_ok {C : Cfg} {f : FuncId} {sz : Nat} {X : List Value → Mem → Option VM} (h0 : C.G = 0) (hX : OkX C.l0 f X) (hE : X [.float .f64 0] [] = some (.slice none 0 0, [])) (hF : X [.float .f64 1] [] = some (.slice none 0 0, []))
    (hN : ∀ len cs, len ≠ 0 → cs.size = len * sz → len < 1000000000 → cs.toList.all hard = true → X [.iface len (.agg cs)] [] = some (.slice (some ⟨0, 0, none⟩) len len, [⟨cs.toList, sz, true, true⟩])) : OkC C f (cloneC0 sz) := by
  intro args m v m' h
  match args, h with
  | [x], h =>
    obtain ⟨y, h1, h2⟩ := ob_eq (show ob (fz 64 m x) (fun y => cloneV0 sz m y) = some (v, m') from h)
    unfold cloneV0 at h2
    split at h2
    · rename_i len cs
      split at h2
      · rename_i hl
        subst hl
        cases h2
        have c0 : Con C.l0 f [.float .f64 0] m (.slice none 0 0) m := empty_con0 (C := C.l0) h0 hX rfl (fun _ _ => rfl) hE m
        have c1 : Con C.l0 f [.float .f64 1] m (.slice none 0 0) m := empty_con0 (C := C.l0) h0 hX rfl (fun _ _ => rfl) hF m
        refine ⟨c0.1, c0.2.1, fun B ι w args' R hG hB hargs hF' => ?_⟩
        obtain ⟨u, hu, r⟩ := hargs.get (i := 0) rfl
        obtain ⟨a, c, rfl⟩ := fz_empty h1 r
        have hsz : args'.toList = [.slice a 0 c] := by
          have hl := hargs.1
          match ha : args'.toList, hl, hu with
          | [z], _, hu => simp at hu; rw [hu]
        cases a with
        | none => exact c0.2.2 B ι w args' R hG hB (by rw [hsz]; exact .cons (.sNil c) .nil) hF'
        | some p => exact c1.2.2 B ι w args' R hG hB (by rw [hsz]; exact .cons (.sEmp p c) .nil) hF'
      · rename_i hl
        split at h2
        · rename_i hc
          cases h2
          refine Con.l0 (fcall_ok (C := C.l0) h0 hX [x] m _ _ ?_)
          simp [h1, hN len cs hl hc.1.1 hc.1.2 hc.2, hc.2]
        · cases h2
    · cases h2
@[simp] theorem cloneC0_one (sz : Nat) (x : Value) (m : Mem) : cloneC0 sz [x] m = bo (fun y => cloneV0 sz m y) (fz 64 m x) := (rfl)
theorem cloneV0_frS {α : Type} (E : Enc α) (h : E.Hard) {sz : Nat} (hs : sz = E.sz) (m : Mem) (l : List α) (hl : l ≠ []) (hl2 : l.length < 1000000000) : cloneV0 sz m (frS E l) = some (.slice (some ⟨m.length, 0, none⟩) l.length l.length, m ++ [ownB E l]) := by
  subst hs
  show (if l.length = 0 then _ else if ((cellsE E l).toArray.size = l.length * E.sz ∧ l.length < 1000000000) ∧ (cellsE E l).all hard = true then some (Value.slice (some ⟨m.length, 0, none⟩) l.length l.length, m ++ [⟨cellsE E l, E.sz, true, true⟩]) else none) = _
  have h0 : l.length ≠ 0 := fun e => hl (List.eq_nil_of_length_eq_zero e)
  rw [if_neg h0, if_pos ⟨⟨by simp, hl2⟩, cellsE_hard E h l⟩]
  rfl
@[simp] theorem cloneV0_nil (sz : Nat) (m : Mem) : cloneV0 sz m (roS 0 []) = some (.slice none 0 0, m) := (rfl)
theorem apL_nil0 {m : Mem} {sz bytes : Nat} : apL m sz bytes (.slice none 0 0) (.float .f64 1) = some (.slice none 0 0, m) := (rfl)
theorem apL_nagg {m : Mem} {sz bytes k : Nat} {cs : Array Value} (h1 : cs.size = k * sz) (h0 : k ≠ 0) (hk : k < 1000000000) (hb : bytes ≤ 100000) : apL m sz bytes (.slice none 0 0) (.iface k (.agg cs)) = some (.slice (some ⟨m.length, 0, none⟩) k k, m ++ [⟨cs.toList, sz, true, true⟩]) := by
  have h2 : k * bytes ≤ 140737488355328 := Nat.le_trans (Nat.mul_le_mul (Nat.le_of_lt hk) hb) (by omega)
  show (if cs.size = k * sz then appendIn m sz bytes (.slice none 0 0) cs.toList k else none) = _
  rw [if_pos h1]
  show (if k = 0 then _ else if k * bytes ≤ 140737488355328 ∧ k ≤ 140737488355328 then _ else none) = _
  rw [if_neg h0, if_pos ⟨h2, by omega⟩]
end
end Go.Ab
namespace Go.Ab
set_option linter.unusedSimpArgs false
set_option linter.unusedVariables false
end Go.Ab
