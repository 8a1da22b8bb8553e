/- Functions over values that stand for Go code, and the proof that the evaluator runs as they say. -/
import Derived.Test.YtciokegejemdcaaDoorFC
set_option linter.unusedVariables false
set_option linter.unusedSimpArgs false
namespace Go.Ab
inductive Pc (α : Type) where
  | no (v : Value)
  | ow (pre l post : List α) (o c : Nat)
def Pc.val {α : Type} (k : Nat) : Pc α → Value
  | .no v => v
  | .ow _ l _ o c => .slice (some ⟨k, o, none⟩) l.length c
def Pc.con {α : Type} : Pc α → List α
  | .no _ => []
  | .ow _ l _ _ _ => l
def Pc.n {α : Type} : Pc α → Nat
  | .no _ => 0
  | .ow _ _ _ _ _ => 1
def Pc.mem {α : Type} (E : Enc α) : Pc α → Mem
  | .no _ => []
  | .ow pre l post _ _ => [ownB E (pre ++ (l ++ post))]
def Pc.ok {α : Type} (E : Enc α) : Pc α → Prop
  | .no v => v = .slice none 0 0 ∨ v = roS 0 []
  | .ow pre l _ o _ => l ≠ [] → o = pre.length * E.sz
structure El (α : Type) where
  a : List Value
  p : Pc α
  b : List Value
def El.ok {α : Type} (E : Enc α) (e : El α) : Prop := e.a.all scal = true ∧ e.b.all scal = true ∧ e.p.ok E
def famN {α : Type} : List (El α) → Nat
  | [] => 0
  | e :: r => e.p.n + famN r
def famM {α : Type} (E : Enc α) : List (El α) → Mem
  | [] => []
  | e :: r => e.p.mem E ++ famM E r
section
variable {α : Type} (E : Enc α)
theorem Pc.mem_len (p : Pc α) : (p.mem E).length = p.n := by cases p <;> rfl
@[simp] theorem famM_len : ∀ es : List (El α), (famM E es).length = famN es
  | [] => rfl
  | e :: r => by rw [famM, famN, List.length_append, Pc.mem_len, famM_len r]
theorem nmV_scal {k : Nat} {v : Value} (h : scal v = true) : nmV (k + 1) v = [] := by cases v <;> simp [scal] at h <;> rfl
theorem nm_scal {k : Nat} : ∀ {l : List Value}, l.all scal = true → l.flatMap (nmV (k + 1)) = []
  | [], _ => rfl
  | v :: l, h => by
    rw [List.all_cons, Bool.and_eq_true] at h
    rw [List.flatMap_cons, nmV_scal h.1, nm_scal h.2]
    rfl
theorem rnV_scal {j : Nat} {π : Nat → Option Nat} {v : Value} (h : scal v = true) : rnV (j + 1) inert π v = some v := rnV_p (scal_inert v h)
theorem rn_scal {j : Nat} {π : Nat → Option Nat} : ∀ {l r : List Value}, l.all scal = true → mapO (rnV (j + 1) inert π) (l ++ r) = bo (fun ys => some (l ++ ys)) (mapO (rnV (j + 1) inert π) r)
  | [], r, _ => by
    rw [List.nil_append]
    cases h : mapO (rnV (j + 1) inert π) r <;> simp
  | v :: l, r, h => by
    rw [List.all_cons, Bool.and_eq_true] at h
    rw [List.cons_append, mapO_cons, rnV_scal h.1, bo_some, rn_scal h.2]
    cases mapO (rnV (j + 1) inert π) r <;> rfl
theorem Pc.rn {j : Nat} {π : Nat → Option Nat} (p : Pc α) (h : p.ok E) (k k' : Nat) (hπ : ∀ i, i < p.n → π (k + i) = some (k' + i)) : rnV (j + 1) inert π (p.val k) = some (p.val k') := by
  cases p with
  | no v =>
    rcases h with rfl | rfl <;> rfl
  | ow pre l post o c =>
    have := hπ 0 (by show 0 < 1; omega)
    rw [Nat.add_zero, Nat.add_zero] at this
    show rnV (j + 1) inert π (.slice (some ⟨k, o, none⟩) l.length c) = _
    rw [rn_inert_sl, this]
    rfl
def Owns (m : Mem) (b n : Nat) : Prop := ∀ i, i < n → ∃ l : List α, m[b + i]? = some (ownB E l)
theorem fam_owns : ∀ (es : List (El α)) (P Q : Mem), Owns E (P ++ (famM E es ++ Q)) P.length (famN es)
  | [], P, Q, i, h => by rw [famN] at h; omega
  | e :: r, P, Q, i, h => by
    rw [famN] at h
    rw [famM]
    cases hp : e.p with
    | no v =>
      have := fam_owns r P Q i (by rw [hp, Pc.n] at h; omega)
      exact this
    | ow pre l post o c =>
      rw [hp, Pc.n] at h
      have := fam_owns r (P ++ [ownB E (pre ++ (l ++ post))]) Q
      rw [List.append_assoc, List.length_append] at this
      cases i with
      | zero => exact ⟨pre ++ (l ++ post), by simp [Pc.mem]⟩
      | succ i =>
        obtain ⟨l', hl⟩ := this i (by omega)
        refine ⟨l', ?_⟩
        rw [← hl]
        simp [Pc.mem]
        congr 1
        omega
theorem fam_ent : ∀ (es : List (El α)) (P Q : Mem) (i : Nat), i < (famM E es).length → (P ++ (famM E es ++ Q))[P.length + i]? = (famM E es)[i]? ∧ ∃ l : List α, (famM E es)[i]? = some (ownB E l) := by
  intro es P Q i hi
  have e : (P ++ (famM E es ++ Q))[P.length + i]? = (famM E es)[i]? := by
    rw [List.getElem?_append_right (by omega), Nat.add_sub_cancel_left, List.getElem?_append_left hi]
  obtain ⟨l, hl⟩ := fam_owns E es P Q i (by rwa [famM_len] at hi)
  exact ⟨e, l, by rw [← e, hl]⟩
end
end Go.Ab
namespace Go.Ab
set_option linter.unusedSimpArgs false
set_option linter.unusedVariables false
section
variable {α : Type} (E : Enc α)
theorem fam_ent0 (es : List (El α)) (i : Nat) (hi : i < (famM E es).length) : ∃ l : List α, (famM E es)[i]? = some (ownB E l) := by
  have := (fam_ent E es [] [] i hi).2
  exact this
end
end Go.Ab
namespace Go.Ab
set_option linter.unusedSimpArgs false
set_option linter.unusedVariables false
section
variable {α : Type} (E : Enc α)
theorem Pc.fz {k : Nat} (p : Pc α) (h : p.ok E) (P Q : Mem) : fz (k + 2) (P ++ (p.mem E ++ Q)) (p.val P.length) = some (frS E p.con) := by
  cases p with
  | no v => rcases h with rfl | rfl <;> rfl
  | ow pre l post o c =>
    have hm : (P ++ ((Pc.ow pre l post o c).mem E ++ Q))[P.length]? = some (ownB E (pre ++ (l ++ post))) := by simp [Pc.mem]
    show Go.Ab.fz (k + 2) _ (.slice (some ⟨P.length, o, none⟩) l.length c) = some (frS E l)
    rw [fz_slO, hm]
    by_cases hl : l = []
    · subst hl
      rfl
    · rw [fzO_part E k _ (a := pre.length) (h hl) (by simp)]
      simp
end
end Go.Ab
namespace Go.Ab
set_option linter.unusedSimpArgs false
set_option linter.unusedVariables false
section
variable {α : Type} (E : Enc α)
end
end Go.Ab
namespace Go.Ab
set_option linter.unusedSimpArgs false
set_option linter.unusedVariables false
structure Has (m : Mem) (v : Value) (acc : List Nat) (v0 : Value) (M0 : Mem) : Prop where
  reach : reachF 4194304 m (nmV 8 v) [] = some acc
  val : rnV 8 inert (ixOf acc) v = some v0
  mem : locM m acc acc = some M0
theorem reach_sub {m : Mem} : ∀ {k : Nat} {todo acc res : List Nat}, reachF k m todo acc = some res → ∀ n ∈ acc, n ∈ res := by
  intro k
  induction k with
  | zero => intro todo acc res h; cases h
  | succ k ih =>
    intro todo acc res h n hn
    cases todo with
    | nil => cases h; exact hn
    | cons x r =>
      simp only [reachF] at h
      split at h
      · exact ih h n hn
      · split at h
        · exact ih h n (by simp [hn])
        · cases h
theorem reach_agree {m m' : Mem} : ∀ {k : Nat} {todo acc res : List Nat}, reachF k m todo acc = some res → (∀ n ∈ res, m'[n]? = m[n]?) → reachF k m' todo acc = some res := by
  intro k
  induction k with
  | zero => intro todo acc res h; cases h
  | succ k ih =>
    intro todo acc res h hg
    cases todo with
    | nil => cases h; rfl
    | cons x r =>
      simp only [reachF] at h ⊢
      split at h
      · rename_i hc
        rw [if_pos hc]
        exact ih h hg
      · rename_i hc
        rw [if_neg hc]
        split at h
        · rename_i b hb
          have hx : x ∈ res := reach_sub h x (by simp)
          rw [hg x hx, hb]
          exact ih h hg
        · cases h
theorem locM_agree {m m' : Mem} {acc : List Nat} : ∀ {l : List Nat} {M : Mem}, locM m acc l = some M → (∀ n ∈ l, m'[n]? = m[n]?) → locM m' acc l = some M
  | [], M, h, _ => h
  | n :: r, M, h, hg => by
    simp only [locM] at h ⊢
    rw [hg n (by simp)]
    split at h
    · rename_i b hb
      obtain ⟨b0, h1, h2⟩ := ob_eq h
      obtain ⟨bs, h3, h4⟩ := ob_eq h2
      cases h4
      have := locM_agree (m' := m') h3 (fun n hn => hg n (by simp [hn]))
      rw [this]
      simp only [h1]
      rfl
    · cases h
theorem Has.agree {m m' : Mem} {v v0 : Value} {acc : List Nat} {M0 : Mem} (H : Has m v acc v0 M0) (hg : ∀ n ∈ acc, m'[n]? = m[n]?) : Has m' v acc v0 M0 :=
  ⟨reach_agree H.reach hg, H.val, locM_agree H.mem hg⟩
theorem Has.nodup {m : Mem} {v v0 : Value} {acc : List Nat} {M0 : Mem} (H : Has m v acc v0 M0) : acc.Nodup := (reach_ok H.reach List.nodup_nil (fun n hn => by cases hn)).1
theorem Has.lt {m : Mem} {v v0 : Value} {acc : List Nat} {M0 : Mem} (H : Has m v acc v0 M0) : ∀ n ∈ acc, n < m.length := (reach_ok H.reach List.nodup_nil (fun n hn => by cases hn)).2
theorem Has.len {m : Mem} {v v0 : Value} {acc : List Nat} {M0 : Mem} (H : Has m v acc v0 M0) : M0.length = acc.length := (locM_get H.mem).1
theorem Has.grow {m m' : Mem} {v v0 : Value} {acc : List Nat} {M0 : Mem} (H : Has m v acc v0 M0) (hg : ∀ n, n < m.length → m'[n]? = m[n]?) : Has m' v acc v0 M0 := H.agree fun n hn => hg n (H.lt n hn)
theorem grow_app (m Q : Mem) : ∀ n, n < m.length → (m ++ Q)[n]? = m[n]? := fun n hn => List.getElem?_append_left hn
theorem inert_nm {k : Nat} {v : Value} (h : inert v = true) : nmV k v = [] := by
  cases k with
  | zero => rfl
  | succ k =>
    cases v with
    | pointer p =>
      cases p with
      | none => rfl
      | some a => simp at h
    | slice p n c =>
      cases p with
      | none => rfl
      | some a => simp at h
    | agg _ => simp at h
    | tuple _ => simp at h
    | func _ _ _ => simp at h
    | _ => rfl
theorem mapO_inv {f g : Value → Option Value} (hf : ∀ v v', f v = some v' → g v' = some v) : ∀ {vs ys : List Value}, mapO f vs = some ys → mapO g ys = some vs
  | [], ys, h => by cases h; rfl
  | x :: xs, ys, h => by
    obtain ⟨y, h1, h2⟩ := ob_eq h
    obtain ⟨zs, h3, h4⟩ := ob_eq h2
    cases h4
    simp only [mapO, hf x y h1, mapO_inv hf h3]
    rfl
theorem mapO_dom {f g : Value → Option Value} (hf : ∀ v v', f v = some v' → ∃ v2, g v = some v2) : ∀ {vs ys : List Value}, mapO f vs = some ys → ∃ zs, mapO g vs = some zs
  | [], ys, h => ⟨[], rfl⟩
  | x :: xs, ys, h => by
    obtain ⟨y, h1, h2⟩ := ob_eq h
    obtain ⟨zs, h3, h4⟩ := ob_eq h2
    obtain ⟨y2, e1⟩ := hf x y h1
    obtain ⟨z2, e2⟩ := mapO_dom hf h3
    exact ⟨y2 :: z2, by simp only [mapO, e1, e2]; rfl⟩
theorem mapO_cong {f g : Value → Option Value} (hf : ∀ v v', f v = some v' → g v = some v') : ∀ {vs ys : List Value}, mapO f vs = some ys → mapO g vs = some ys
  | [], ys, h => h
  | x :: xs, ys, h => by
    obtain ⟨y, h1, h2⟩ := ob_eq h
    obtain ⟨zs, h3, h4⟩ := ob_eq h2
    cases h4
    simp only [mapO, hf x y h1, mapO_cong hf h3]
    rfl
theorem mapO_flat {f : Value → Option Value} {g : Value → List Nat} {q : List Nat → List Nat} (hq : ∀ a b, q (a ++ b) = q a ++ q b) (h0 : q [] = []) (hf : ∀ v v', f v = some v' → g v' = q (g v)) : ∀ {vs ys : List Value}, mapO f vs = some ys → ys.flatMap g = q (vs.flatMap g)
  | [], ys, h => by cases h; exact h0.symm
  | x :: xs, ys, h => by
    obtain ⟨y, h1, h2⟩ := ob_eq h
    obtain ⟨zs, h3, h4⟩ := ob_eq h2
    cases h4
    rw [List.flatMap_cons, List.flatMap_cons, hq, hf x y h1, mapO_flat hq h0 hf h3]
theorem mapO_lenE {f : Value → Option Value} : ∀ {vs ys : List Value}, mapO f vs = some ys → ys.length = vs.length
  | [], ys, h => by cases h; rfl
  | x :: xs, ys, h => by
    obtain ⟨y, h1, h2⟩ := ob_eq h
    obtain ⟨zs, h3, h4⟩ := ob_eq h2
    cases h4
    rw [List.length_cons, List.length_cons, mapO_lenE h3]
theorem mapO_dropE {f : Value → Option Value} : ∀ {vs ys : List Value} (a : Nat), mapO f vs = some ys → mapO f (vs.drop a) = some (ys.drop a)
  | vs, ys, 0, h => h
  | [], ys, a + 1, h => by cases h; rfl
  | x :: xs, ys, a + 1, h => by
    obtain ⟨y, h1, h2⟩ := ob_eq h
    obtain ⟨zs, h3, h4⟩ := ob_eq h2
    cases h4
    exact mapO_dropE a h3
theorem mapO_takeE {f : Value → Option Value} : ∀ {vs ys : List Value} (a : Nat), mapO f vs = some ys → mapO f (vs.take a) = some (ys.take a)
  | vs, ys, 0, h => rfl
  | [], ys, a + 1, h => by cases h; rfl
  | x :: xs, ys, a + 1, h => by
    obtain ⟨y, h1, h2⟩ := ob_eq h
    obtain ⟨zs, h3, h4⟩ := ob_eq h2
    cases h4
    simp only [List.take_succ_cons, mapO, h1, mapO_takeE a h3]
    rfl
theorem mapO_comp {f g h : Value → Option Value} (hf : ∀ v v' w, f v = some v' → g v' = some w → h v = some w) : ∀ {vs ys ws : List Value}, mapO f vs = some ys → mapO g ys = some ws → mapO h vs = some ws
  | [], ys, ws, h1, h2 => by cases h1; exact h2
  | x :: xs, ys, ws, e1, e2 => by
    obtain ⟨y, h1, h2⟩ := ob_eq e1
    obtain ⟨zs, h3, h4⟩ := ob_eq h2
    cases h4
    obtain ⟨y', h1', h2'⟩ := ob_eq e2
    obtain ⟨zs', h3', h4'⟩ := ob_eq h2'
    cases h4'
    simp only [mapO, hf x y y' h1 h1', mapO_comp hf h3 h3']
    rfl
theorem rnV_nm {π : Nat → Option Nat} {f : Nat → Nat} (hf : ∀ n n', π n = some n' → n' = f n) : ∀ (k : Nat) v v', rnV k inert π v = some v' → nmV k v' = (nmV k v).map f := by
  intro k
  induction k with
  | zero => intro v v' h; cases h
  | succ k ih =>
    intro v v' h
    have key : ∀ {vs ys : List Value}, mapO (rnV k inert π) vs = some ys → ys.flatMap (nmV k) = (vs.flatMap (nmV k)).map f := fun h => mapO_flat (q := List.map f) (fun a b => List.map_append) rfl ih h
    unfold rnV at h
    split at h
    · rename_i hp; cases h; rw [inert_nm hp]; rfl
    · split at h
      · obtain ⟨n', h1, h2⟩ := ob_eq h; cases h2; rw [hf _ _ h1]; rfl
      · obtain ⟨n', h1, h2⟩ := ob_eq h; cases h2; rw [hf _ _ h1]; rfl
      · obtain ⟨xs, h1, h2⟩ := ob_eq h; cases h2
        exact key h1
      · obtain ⟨xs, h1, h2⟩ := ob_eq h; cases h2
        exact key h1
      · obtain ⟨xs, h1, h2⟩ := ob_eq h
        obtain ⟨ys, h3, h4⟩ := ob_eq h2; cases h4
        show xs.flatMap (nmV k) ++ ys.flatMap (nmV k) = _
        rw [key h1, key h3, ← List.map_append]
        rfl
      · cases h
theorem rnV_names {π : Nat → Option Nat} : ∀ (k : Nat) v v', rnV k inert π v = some v' → ∀ n ∈ nmV k v, ∃ n', π n = some n' := by
  intro k
  induction k with
  | zero => intro v v' h; cases h
  | succ k ih =>
    intro v v' h
    have key : ∀ {vs ys : List Value}, mapO (rnV k inert π) vs = some ys → ∀ n ∈ vs.flatMap (nmV k), ∃ n', π n = some n' := by
      intro vs
      induction vs with
      | nil => intro ys h n hn; simp at hn
      | cons x xs ihx =>
        intro ys h n hn
        obtain ⟨y, h1, h2⟩ := ob_eq h
        obtain ⟨zs, h3, h4⟩ := ob_eq h2
        rw [List.flatMap_cons, List.mem_append] at hn
        rcases hn with hn | hn
        · exact ih x y h1 n hn
        · exact ihx h3 n hn
    unfold rnV at h
    split at h
    · rename_i hp; intro n hn; rw [inert_nm hp] at hn; cases hn
    · split at h
      · obtain ⟨n', h1, h2⟩ := ob_eq h
        intro n hn
        rw [show nmV (k + 1) _ = [_] from rfl, List.mem_singleton] at hn
        subst hn; exact ⟨_, h1⟩
      · obtain ⟨n', h1, h2⟩ := ob_eq h
        intro n hn
        rw [show nmV (k + 1) _ = [_] from rfl, List.mem_singleton] at hn
        subst hn; exact ⟨_, h1⟩
      · obtain ⟨xs, h1, h2⟩ := ob_eq h; exact key h1
      · obtain ⟨xs, h1, h2⟩ := ob_eq h; exact key h1
      · obtain ⟨xs, h1, h2⟩ := ob_eq h
        obtain ⟨ys, h3, h4⟩ := ob_eq h2
        intro n hn
        rw [show nmV (k + 1) _ = _ ++ _ from rfl, List.mem_append] at hn
        rcases hn with hn | hn
        · exact key h1 n hn
        · exact key h3 n hn
      · cases h
theorem rnV_inv {π π' : Nat → Option Nat} (hπ : ∀ n n', π n = some n' → π' n' = some n) : ∀ (k : Nat) v v', rnV k inert π v = some v' → rnV k inert π' v' = some v := by
  intro k
  induction k with
  | zero => intro v v' h; cases h
  | succ k ih =>
    intro v v' h
    unfold rnV at h
    split at h
    · rename_i hp; cases h; exact rnV_p hp
    · split at h
      · obtain ⟨n', h1, h2⟩ := ob_eq h; cases h2
        rw [rn_inert_ptr, hπ _ _ h1]; rfl
      · obtain ⟨n', h1, h2⟩ := ob_eq h; cases h2
        rw [rn_inert_sl, hπ _ _ h1]; rfl
      · obtain ⟨xs, h1, h2⟩ := ob_eq h; cases h2
        rw [rn_inert_agg, show xs.toArray.toList = xs from rfl, mapO_inv ih h1]; rfl
      · obtain ⟨xs, h1, h2⟩ := ob_eq h; cases h2
        rw [rn_inert_tuple, show xs.toArray.toList = xs from rfl, mapO_inv ih h1]; rfl
      · obtain ⟨xs, h1, h2⟩ := ob_eq h
        obtain ⟨ys, h3, h4⟩ := ob_eq h2; cases h4
        rw [rn_inert_func, show xs.toArray.toList = xs from rfl, mapO_inv ih h1, show ys.toArray.toList = ys from rfl, mapO_inv ih h3]; rfl
      · cases h
theorem rnV_dom {π π' : Nat → Option Nat} (hπ : ∀ n n', π n = some n' → ∃ n'', π' n = some n'') : ∀ (k : Nat) v v', rnV k inert π v = some v' → ∃ v2, rnV k inert π' v = some v2 := by
  intro k
  induction k with
  | zero => intro v v' h; cases h
  | succ k ih =>
    intro v v' h
    unfold rnV at h
    split at h
    · rename_i hp; exact ⟨v, rnV_p hp⟩
    · split at h
      · obtain ⟨n', h1, h2⟩ := ob_eq h
        obtain ⟨n2, e⟩ := hπ _ _ h1
        exact ⟨_, by rw [rn_inert_ptr, e, bo_some]⟩
      · obtain ⟨n', h1, h2⟩ := ob_eq h
        obtain ⟨n2, e⟩ := hπ _ _ h1
        exact ⟨_, by rw [rn_inert_sl, e, bo_some]⟩
      · obtain ⟨xs, h1, h2⟩ := ob_eq h
        obtain ⟨z, e⟩ := mapO_dom ih h1
        exact ⟨_, by rw [rn_inert_agg, e, bo_some]⟩
      · obtain ⟨xs, h1, h2⟩ := ob_eq h
        obtain ⟨z, e⟩ := mapO_dom ih h1
        exact ⟨_, by rw [rn_inert_tuple, e, bo_some]⟩
      · obtain ⟨xs, h1, h2⟩ := ob_eq h
        obtain ⟨ys, h3, h4⟩ := ob_eq h2
        obtain ⟨z, e⟩ := mapO_dom ih h1
        obtain ⟨z', e'⟩ := mapO_dom ih h3
        exact ⟨_, by rw [rn_inert_func, e, bo_some, e', bo_some]⟩
      · cases h
theorem rnV_cong {p : Value → Bool} {π π' : Nat → Option Nat} (hπ : ∀ n n', π n = some n' → π' n = some n') : ∀ (k : Nat) v v', rnV k p π v = some v' → rnV k p π' v = some v' := by
  intro k
  induction k with
  | zero => intro v v' h; cases h
  | succ k ih =>
    intro v v' h
    unfold rnV at h ⊢
    split at h
    · rename_i hp; rw [if_pos hp]; exact h
    · rename_i hp
      rw [if_neg hp]
      split at h
      · obtain ⟨n', h1, h2⟩ := ob_eq h; simp only [hπ _ _ h1]; exact h2
      · obtain ⟨n', h1, h2⟩ := ob_eq h; simp only [hπ _ _ h1]; exact h2
      · obtain ⟨xs, h1, h2⟩ := ob_eq h; simp only [mapO_cong ih h1]; exact h2
      · obtain ⟨xs, h1, h2⟩ := ob_eq h; simp only [mapO_cong ih h1]; exact h2
      · obtain ⟨xs, h1, h2⟩ := ob_eq h
        obtain ⟨ys, h3, h4⟩ := ob_eq h2
        simp only [mapO_cong ih h1, mapO_cong ih h3]; exact h4
      · cases h
theorem rnV_hard {π : Nat → Option Nat} : ∀ (k : Nat) v v', rnV k hard π v = some v' → rnV k inert π v = some v' := by
  intro k
  induction k with
  | zero => intro v v' h; cases h
  | succ k ih =>
    intro v v' h
    unfold rnV at h
    split at h
    · rename_i hp; cases h; exact rnV_p (hard_inert hp)
    · split at h
      · obtain ⟨n', h1, h2⟩ := ob_eq h; cases h2; rw [rn_inert_ptr, h1]; rfl
      · obtain ⟨n', h1, h2⟩ := ob_eq h; cases h2; rw [rn_inert_sl, h1]; rfl
      · obtain ⟨xs, h1, h2⟩ := ob_eq h; cases h2; rw [rn_inert_agg, mapO_cong ih h1]; rfl
      · obtain ⟨xs, h1, h2⟩ := ob_eq h; cases h2; rw [rn_inert_tuple, mapO_cong ih h1]; rfl
      · obtain ⟨xs, h1, h2⟩ := ob_eq h
        obtain ⟨ys, h3, h4⟩ := ob_eq h2; cases h4
        rw [rn_inert_func, mapO_cong ih h1, mapO_cong ih h3]; rfl
      · cases h
theorem ixOf_get : ∀ {l : List Nat} {i n : Nat}, l.Nodup → l[i]? = some n → ixOf l n = some i
  | [], i, n, _, h => by simp at h
  | a :: l, 0, n, hn, h => by
    simp at h
    subst h
    simp
  | a :: l, i + 1, n, hn, h => by
    rw [List.nodup_cons] at hn
    rw [List.getElem?_cons_succ] at h
    have hm := List.mem_of_getElem? h
    rw [ixOf_cons, if_neg (fun e => hn.1 (by rw [e]; exact hm)), ixOf_get hn.2 h]
    rfl
theorem locM_mk {m : Mem} {acc : List Nat} : ∀ {l : List Nat} {M : Mem}, l.length = M.length → (∀ (i : Nat) b0, M[i]? = some b0 → ∃ n b, l[i]? = some n ∧ m[n]? = some b ∧ locB acc b = some b0) → locM m acc l = some M
  | [], [], _, _ => rfl
  | [], _ :: _, h, _ => by simp at h
  | _ :: _, [], h, _ => by simp at h
  | n :: l, b0 :: M, h, hg => by
    obtain ⟨n', b, h1, h2, h3⟩ := hg 0 b0 rfl
    simp at h1
    subst h1
    have := locM_mk (m := m) (acc := acc) (l := l) (M := M) (by simpa using h) (fun i b1 hb => hg (i + 1) b1 (by simpa using hb))
    simp only [locM, h2, h3, this]
    rfl
theorem reach_map {M m : Mem} {N : Nat} {f : Nat → Nat} (hN : ∀ (i : Nat) b, M[i]? = some b → i < N) (hf : ∀ i j, i < N → j < N → f i = f j → i = j) (hb : ∀ (i : Nat) b, M[i]? = some b → (∃ b', m[f i]? = some b' ∧ nmB b' = (nmB b).map f) ∧ ∀ n ∈ nmB b, n < N) : ∀ (k : Nat) (todo acc res : List Nat), reachF k M todo acc = some res → (∀ n ∈ todo, n < N) → (∀ n ∈ acc, n < N) → reachF k m (todo.map f) (acc.map f) = some (res.map f) := by
  intro k
  induction k with
  | zero => intro todo acc res h; cases h
  | succ k ih =>
    intro todo acc res h ht ha
    cases todo with
    | nil => cases h; rfl
    | cons n r =>
      have hn := ht n (by simp)
      simp only [reachF] at h
      rw [List.map_cons]
      simp only [reachF]
      have hc : (acc.map f).contains (f n) = acc.contains n := by
        rw [Bool.eq_iff_iff]
        simp only [List.contains_eq_mem, decide_eq_true_eq, List.mem_map]
        constructor
        · rintro ⟨x, hx, e⟩
          have := hf x n (ha x hx) hn e
          subst this
          exact hx
        · intro hx
          exact ⟨n, hx, rfl⟩
      rw [hc]
      split at h
      · rename_i hcc
        rw [if_pos hcc]
        exact ih _ _ _ h (fun x hx => ht x (by simp [hx])) ha
      · rename_i hcc
        rw [if_neg hcc]
        split at h
        · rename_i b hbb
          obtain ⟨⟨b', e1, e2⟩, e3⟩ := hb n b hbb
          rw [e1]
          simp only
          rw [e2, ← List.map_append, show acc.map f ++ [f n] = (acc ++ [n]).map f by simp]
          refine ih _ _ _ h (fun x hx => ?_) (fun x hx => ?_)
          · rcases List.mem_append.1 hx with h | h
            · exact ht x (by simp [h])
            · exact e3 x h
          · rcases List.mem_append.1 hx with h | h
            · exact ha x h
            · simp at h; subst h; exact hn
        · cases h
abbrev Can (v0 : Value) (M : Mem) : Prop := Has M v0 (List.range M.length) v0 M
theorem ixOf_range {N n n' : Nat} (h : ixOf (List.range N) n = some n') : n' = n ∧ n < N := by
  have := ixOf_some h
  rw [List.getElem?_range] at this
  · obtain ⟨h1, h2⟩ := List.getElem?_eq_some_iff.1 (ixOf_some h)
    simp at h1 h2
    omega
  · obtain ⟨h1, h2⟩ := List.getElem?_eq_some_iff.1 (ixOf_some h)
    simpa using h1
theorem nmB_names {N : Nat} {b : Blk} (h : locB (List.range N) b = some b) : ∀ n ∈ nmB b, n < N := by
  unfold locB at h
  unfold nmB
  split at h
  · rename_i hi; rw [if_pos hi]; intro n hn; cases hn
  · rename_i hi
    rw [if_neg hi]
    split at h
    · rename_i hl
      rw [if_pos hl]
      obtain ⟨cs, h1, h2⟩ := ob_eq h
      intro n hn
      have key : ∀ {vs ys : List Value}, mapO (rnV 8 inert (ixOf (List.range N))) vs = some ys → ∀ n ∈ vs.flatMap (nmV 8), n < N := by
        intro vs
        induction vs with
        | nil => intro ys h n hn; simp at hn
        | cons x xs ihx =>
          intro ys h n hn
          obtain ⟨y, h1, h2⟩ := ob_eq h
          obtain ⟨zs, h3, h4⟩ := ob_eq h2
          rw [List.flatMap_cons, List.mem_append] at hn
          rcases hn with hn | hn
          · obtain ⟨n', e⟩ := rnV_names 8 x y h1 n hn
            exact (ixOf_range e).2
          · exact ihx h3 n hn
      exact key h1 n hn
    · rename_i hl
      rw [if_neg hl]
      intro n hn
      cases hn
theorem Has.map {M m : Mem} {v0 v : Value} {acc : List Nat} (H : Can v0 M) (hn : acc.Nodup) (hl : acc.length = M.length) (hv : rnV 8 inert (fun i => acc[i]?) v0 = some v) (hb : ∀ (i : Nat) b, M[i]? = some b → ∃ n b', acc[i]? = some n ∧ m[n]? = some b' ∧ bkB (fun i => acc[i]?) b = some b') : Has m v acc v0 M := by
  have hinv : ∀ n n', (fun i => acc[i]?) n = some n' → ixOf acc n' = some n := fun n n' h => ixOf_get hn h
  have hblk : ∀ (i : Nat) b, M[i]? = some b → locB (List.range M.length) b = some b := by
    intro i b hi
    obtain ⟨n, b1, e1, e2, e3⟩ := (locM_get H.mem).2 i b hi
    have hi' := (List.getElem?_eq_some_iff.1 hi).1
    rw [List.getElem?_range hi'] at e1
    cases e1
    rw [hi] at e2
    cases e2
    exact e3
  refine ⟨?_, rnV_inv hinv 8 _ _ hv, ?_⟩
  · have hnm : ∀ n ∈ nmV 8 v0, n < M.length := by
      intro n hn'
      obtain ⟨n', e⟩ := rnV_names 8 _ _ H.val n hn'
      exact (ixOf_range e).2
    have hf1 : ∀ n n', (fun i => acc[i]?) n = some n' → n' = acc.getD n 0 := by
      intro n n' h
      simp only at h
      simp [h]
    have := reach_map (m := m) (N := M.length) (f := fun i => acc.getD i 0) (fun i b hi => (List.getElem?_eq_some_iff.1 hi).1) (fun i j hi hj e => by
      have ei : acc[i]? = some (acc.getD i 0) := by simp [List.getElem?_eq_getElem (show i < acc.length by omega)]
      have ej : acc[j]? = some (acc.getD j 0) := by simp [List.getElem?_eq_getElem (show j < acc.length by omega)]
      have h1 := ixOf_get hn ei
      have h2 := ixOf_get hn ej
      have e : acc.getD i 0 = acc.getD j 0 := e
      rw [e, h2] at h1
      cases h1
      rfl) (fun i b hi => by
      refine ⟨?_, nmB_names (hblk i b hi)⟩
      obtain ⟨n, b', e1, e2, e3⟩ := hb i b hi
      refine ⟨b', by simp [e1, e2], ?_⟩
      unfold bkB at e3
      split at e3
      · rename_i hin
        cases e3
        unfold nmB
        rw [if_pos hin]
        rfl
      · rename_i hin
        split at e3
        · rename_i hlv
          obtain ⟨cs, h1, h2⟩ := ob_eq e3
          cases h2
          have hflat := mapO_flat (q := List.map fun i => acc.getD i 0) (fun a b => List.map_append) rfl (rnV_nm hf1 8) h1
          unfold nmB
          simp only [hlv, if_true]
          rw [if_neg hin]
          split
          · rename_i hc
            rw [← hflat]
            have : ∀ l : List Value, l.all inert = true → l.flatMap (nmV 8) = [] := by
              intro l
              induction l with
              | nil => intro _; rfl
              | cons x l ih =>
                intro h
                rw [List.all_cons, Bool.and_eq_true] at h
                rw [List.flatMap_cons, inert_nm h.1, ih h.2]; rfl
            rw [this _ hc]
          · exact hflat
        · rename_i hlv
          cases e3
          unfold nmB
          simp [hin, hlv]) 4194304 (nmV 8 v0) [] (List.range M.length) H.reach hnm (fun n hn => by cases hn)
    rw [← rnV_nm hf1 8 _ _ hv] at this
    rw [List.map_nil] at this
    rw [this]
    congr 1
    apply List.ext_getElem?
    intro i
    rw [List.getElem?_map]
    rcases Nat.lt_or_ge i M.length with hi | hi
    · rw [List.getElem?_range hi]
      simp [List.getElem?_eq_getElem (show i < acc.length by omega)]
    · rw [List.getElem?_eq_none (by simpa using hi), List.getElem?_eq_none (by omega)]
      rfl
  · refine locM_mk hl fun i b hi => ?_
    obtain ⟨n, b', e1, e2, e3⟩ := hb i b hi
    refine ⟨n, b', e1, e2, ?_⟩
    have hc := hblk i b hi
    unfold bkB at e3
    split at e3
    · rename_i hin
      cases e3
      unfold locB
      rw [if_pos hin]
    · rename_i hin
      split at e3
      · rename_i hlv
        obtain ⟨cs, h1, h2⟩ := ob_eq e3
        cases h2
        have hback := mapO_inv (rnV_inv hinv 8) h1
        unfold locB
        simp only [hlv, if_true]
        split
        · rename_i hc2
          have : ∀ l ys : List Value, l.all inert = true → mapO (rnV 8 inert (ixOf acc)) l = some ys → ys = l := by
            intro l
            induction l with
            | nil => intro ys _ h; cases h; rfl
            | cons x l ih =>
              intro ys h h'
              rw [List.all_cons, Bool.and_eq_true] at h
              obtain ⟨y, q1, q2⟩ := ob_eq h'
              obtain ⟨zs, q3, q4⟩ := ob_eq q2
              cases q4
              rw [rnV_p h.1] at q1
              cases q1
              rw [ih zs h.2 q3]
          have e := this _ _ hc2 hback
          rw [← e, ← hlv]
        · rw [hback, ← hlv]
          rfl
      · rename_i hlv
        exfalso
        unfold locB at hc
        rw [if_neg hin, if_neg hlv] at hc
        have : b.cells = [] := by
          have := Option.some.inj hc
          rw [← this]
        rw [this] at hin
        simp at hin
end Go.Ab
namespace Go.Ab
set_option linter.unusedSimpArgs false
set_option linter.unusedVariables false
theorem mapB_mk {f : Blk → Option Blk} : ∀ {m : Mem}, (∀ (i : Nat) b, m[i]? = some b → ∃ b', f b = some b') → ∃ bs, mapB f m = some bs
  | [], _ => ⟨[], rfl⟩
  | b :: m, h => by
    obtain ⟨b', e⟩ := h 0 b rfl
    obtain ⟨bs, e2⟩ := mapB_mk (m := m) (f := f) (fun i x hx => h (i + 1) x (by simpa using hx))
    exact ⟨b' :: bs, by simp only [mapB, e, e2]; rfl⟩
theorem loc_bkB {N : Nat} {π : Nat → Option Nat} {b : Blk} (h : locB (List.range N) b = some b) (hπ : ∀ n, n < N → ∃ n', π n = some n') : ∃ b', bkB π b = some b' := by
  unfold locB at h
  unfold bkB
  split at h
  · rename_i hi; exact ⟨b, by rw [if_pos hi]⟩
  · rename_i hi
    rw [if_neg hi]
    split at h
    · rename_i hl
      rw [if_pos hl]
      obtain ⟨cs, h1, h2⟩ := ob_eq h
      obtain ⟨zs, e⟩ := mapO_dom (g := rnV 8 inert π) (rnV_dom (fun n n' hn => hπ n (ixOf_range hn).2) 8) h1
      exact ⟨_, by rw [e]; rfl⟩
    · rename_i hl
      rw [if_neg hl]
      exact ⟨_, rfl⟩
theorem Can.blk {v0 : Value} {M : Mem} (H : Can v0 M) : ∀ (i : Nat) b, M[i]? = some b → locB (List.range M.length) b = some b := by
  intro i b hi
  obtain ⟨n, b1, e1, e2, e3⟩ := (locM_get H.mem).2 i b hi
  have hi' := (List.getElem?_eq_some_iff.1 hi).1
  rw [List.getElem?_range hi'] at e1
  cases e1
  rw [hi] at e2
  cases e2
  exact e3
theorem Has.call {X : List Value → Mem → Option VM} {m M0 M1 : Mem} {v v0 r : Value} {acc : List Nat} {rest : List Value} (H : Has m v acc v0 M0) (hX : X (v0 :: rest) M0 = some (r, M1)) (hr : scal r = true) (hrest : rest.all scal = true) (H1 : Can v0 M1) (hl : M1.length = M0.length) :
    ∃ m', rcall X (v :: rest) m = some (r, m') ∧ m'.length = m.length ∧ (∀ n, n ∉ acc → m'[n]? = m[n]?) ∧ Has m' v acc v0 M1 := by
  have hlen := H.len
  have h1 : (v :: rest).flatMap (nmV 8) = nmV 8 v := by rw [List.flatMap_cons, nm_scal hrest, List.append_nil]
  have h2 : mapO (rnV 8 inert (ixOf acc)) (v :: rest) = some (v0 :: rest) := by
    have hr := rn_scal (j := 7) (π := ixOf acc) (l := rest) (r := []) hrest
    rw [List.append_nil] at hr
    rw [mapO_cons, H.val, bo_some, hr]
    simp [mapO]
  have hπ : ∀ n, n < M1.length → ∃ n', bk acc m.length M1.length n = some n' := fun n hn => by
    unfold bk
    rw [if_pos (by omega)]
    exact ⟨_, List.getElem?_eq_getElem (by omega)⟩
  obtain ⟨bs, hbs⟩ := mapB_mk (m := M1) (f := bkB (bk acc m.length M1.length)) fun i b hb => loc_bkB (H1.blk i b hb) hπ
  obtain ⟨e1, e2⟩ := mapB_get hbs
  refine ⟨setAll m acc bs, ?_, setAll_len _ _ _, fun n hn => setAll_out _ _ _ _ hn, ?_⟩
  · rw [rcall_eq, h1, H.reach, bo_some, h2, bo_some, H.mem, bo_some, hX, bo_some]
    simp only
    rw [if_pos (by omega), rnV_scal hr, bo_some, hbs, bo_some, List.take_of_length_le (by omega), List.drop_of_length_le (by omega), List.append_nil]
  · have hb : ∀ n n', bk acc m.length M1.length n = some n' → n < M1.length → acc[n]? = some n' := fun n n' h hn => by
      unfold bk at h
      rwa [if_pos (by omega)] at h
    refine Has.map H1 H.nodup (by omega) ?_ fun i b hi => ?_
    · refine rnV_inv (π := ixOf acc) (fun n n' h => ixOf_some h) 8 _ _ H.val
    · have hi' := (List.getElem?_eq_some_iff.1 hi).1
      have ha : acc[i]? = some acc[i] := List.getElem?_eq_getElem (by omega)
      have hbi : bs[i]? = some bs[i] := List.getElem?_eq_getElem (by omega)
      refine ⟨acc[i], bs[i], ha, setAll_in _ _ _ H.nodup H.lt i _ _ ha hbi, ?_⟩
      have := e2 i b bs[i] hi hbi
      have hnm := nmB_names (H1.blk i b hi)
      unfold bkB at this ⊢
      split at this
      · rename_i hin; rw [if_pos hin]; exact this
      · rename_i hin
        rw [if_neg hin]
        split at this
        · rename_i hlv
          rw [if_pos hlv]
          obtain ⟨cs, q1, q2⟩ := ob_eq this
          have hloc := H1.blk i b hi
          unfold locB at hloc
          rw [if_neg hin, if_pos hlv] at hloc
          obtain ⟨ds, r1, r2⟩ := ob_eq hloc
          obtain ⟨zs, r3⟩ := mapO_dom (g := rnV 8 inert fun i => acc[i]?) (rnV_dom (fun n n' hn => ⟨_, List.getElem?_eq_getElem (show n < acc.length by have := (ixOf_range hn).2; omega)⟩) 8) r1
          have hcg := mapO_cong (g := rnV 8 inert (bk acc m.length M1.length)) (rnV_cong (fun n n' hn => by
            unfold bk
            have := (List.getElem?_eq_some_iff.1 hn).1
            rw [if_pos this]
            exact hn) 8) r3
          rw [hcg] at q1
          cases q1
          rw [r3]
          exact q2
        · rename_i hlv
          rw [if_neg hlv]
          exact this
def HdM (M0 : Mem) : Prop := ∀ N, ∃ bs, mapB (shB N M0.length) M0 = some bs
theorem Has.new {X : List Value → Mem → Option VM} {m M0 : Mem} {v0 : Value} {F : Nat → Value} {args fr : List Value} (ha : mapO (fz 64 m) args = some fr) (hX : X fr [] = some (v0, M0)) (H : Can v0 M0) (hd : HdM M0) (hF : ∀ N, rnV 8 hard (sft N M0.length) v0 = some (F N)) :
    ∃ k m', k = m.length ∧ fcall X args m = some (F k, m') ∧ m'.length = m.length + M0.length ∧ (∀ n, n < m.length → m'[n]? = m[n]?) ∧ Has m' (F k) (List.range' k M0.length) v0 M0 := by
  obtain ⟨bs, hbs⟩ := hd m.length
  obtain ⟨v, hv, hvF⟩ : ∃ v, rnV 8 hard (sft m.length M0.length) v0 = some v ∧ F m.length = v := ⟨_, hF _, rfl⟩
  refine ⟨m.length, ?_⟩
  rw [hvF]
  obtain ⟨e1, e2⟩ := mapB_get hbs
  have hs : ∀ n n', sft m.length M0.length n = some n' → (List.range' m.length M0.length)[n]? = some n' := by
    intro n n' h
    unfold sft at h
    split at h
    · rename_i hn
      cases h
      rw [List.getElem?_range' hn]
      congr 1
      omega
    · cases h
  refine ⟨m ++ bs, rfl, ?_, by simp [e1], grow_app m bs, Has.map H List.nodup_range' (by simp) ?_ fun i b hi => ?_⟩
  · rw [fcall_eq, ha, bo_some, hX, bo_some]
    simp only [hv, hbs, bo_some]
  · exact rnV_cong hs 8 _ _ (rnV_hard 8 _ _ hv)
  · have hi' := (List.getElem?_eq_some_iff.1 hi).1
    have hbi : bs[i]? = some bs[i] := List.getElem?_eq_getElem (by omega)
    refine ⟨m.length + i, bs[i], by rw [List.getElem?_range' hi']; congr 1; omega, by rw [List.getElem?_append_right (by omega), Nat.add_sub_cancel_left]; exact hbi, ?_⟩
    have := e2 i b bs[i] hi hbi
    unfold shB at this
    split at this
    · rename_i hlo
      unfold bkB
      split at this
      · rename_i hh
        have : b = bs[i] := Option.some.inj this
        have hin : b.cells.all inert = true := by
          rw [List.all_eq_true] at hh ⊢
          exact fun x hx => hard_inert (hh x hx)
        rw [if_pos hin, this]
      · rename_i hh
        obtain ⟨cs, q1, q2⟩ := ob_eq this
        have q3 := mapO_cong (g := rnV 8 inert (sft m.length M0.length)) (rnV_hard 8) q1
        have q4 := mapO_cong (g := rnV 8 inert fun i => (List.range' m.length M0.length)[i]?) (rnV_cong hs 8) q3
        split
        · rename_i hin
          exfalso
          apply hh
          have : ∀ l ys : List Value, l.all inert = true → mapO (rnV 8 hard (sft m.length M0.length)) l = some ys → l.all hard = true := by
            intro l
            induction l with
            | nil => intro _ _ _; rfl
            | cons x l ih =>
              intro ys h h'
              rw [List.all_cons, Bool.and_eq_true] at h
              obtain ⟨y, r1, r2⟩ := ob_eq h'
              obtain ⟨zs, r3, r4⟩ := ob_eq r2
              rw [List.all_cons, ih zs h.2 r3, Bool.and_true]
              unfold rnV at r1
              split at r1
              · assumption
              · split at r1 <;> first | (simp at h; done) | cases r1
          exact this _ _ hin q1
        · rw [if_pos hlo.1, q4]
          exact q2
    · cases this
theorem fz_inert {k : Nat} {m m' : Mem} {v : Value} (h : inert v = true) : fz k m' v = fz k m v := by
  cases k with
  | zero => rfl
  | succ k =>
    cases v with
    | pointer p =>
      cases p with
      | none => rfl
      | some a => simp at h
    | slice p n c =>
      cases p with
      | none => rcases n with _ | n <;> rcases c with _ | c <;> rfl
      | some a => simp at h
    | agg _ => simp at h
    | tuple _ => simp at h
    | func _ _ _ => simp at h
    | _ => rfl
theorem mapO_inertF {k : Nat} {m m' : Mem} : ∀ {l : List Value}, l.all inert = true → mapO (fz k m') l = mapO (fz k m) l
  | [], _ => rfl
  | x :: l, h => by
    rw [List.all_cons, Bool.and_eq_true] at h
    rw [mapO_cons, mapO_cons, fz_inert h.1, mapO_inertF h.2]
theorem locB_live {acc : List Nat} {b b0 : Blk} (h : locB acc b = some b0) (hl : b0.live = true) : b.live = true ∧ b.es = b0.es ∧ b.cells.length = b0.cells.length ∧ ((b.cells.all inert = true ∧ b0 = b) ∨ mapO (rnV 8 inert (ixOf acc)) b.cells = some b0.cells) := by
  unfold locB at h
  split at h
  · rename_i hi; cases h; exact ⟨hl, rfl, rfl, .inl ⟨hi, rfl⟩⟩
  · split at h
    · rename_i hlv
      obtain ⟨cs, h1, h2⟩ := ob_eq h
      cases h2
      exact ⟨hlv, rfl, (mapO_lenE h1).symm, .inr h1⟩
    · rename_i hlv
      cases h
      exact absurd hl hlv
theorem all_drop_take {p : Value → Bool} {l : List Value} (h : l.all p = true) (a n : Nat) : ((l.drop a).take n).all p = true := by
  rw [List.all_eq_true] at h ⊢
  exact fun x hx => h x (List.mem_of_mem_drop (List.mem_of_mem_take hx))
theorem fz_loc {m M0 : Mem} {acc : List Nat} (hm : locM m acc acc = some M0) : ∀ (k j : Nat) (v v0 w : Value), rnV j inert (ixOf acc) v = some v0 → fz k M0 v0 = some w → fz k m v = some w := by
  intro k
  induction k with
  | zero => intro j v v0 w _ h; cases h
  | succ k ih =>
    intro j v v0 w hv hw
    have hblk : ∀ n n0, ixOf acc n = some n0 → ∀ b0, M0[n0]? = some b0 → ∃ b, m[n]? = some b ∧ locB acc b = some b0 := by
      intro n n0 hn b0 hb
      obtain ⟨x, b, q1, q2, q3⟩ := (locM_get hm).2 n0 b0 hb
      rw [ixOf_some hn] at q1
      cases q1
      exact ⟨b, q2, q3⟩
    have key : ∀ {cs cs0 xs : List Value} (j : Nat), mapO (rnV j inert (ixOf acc)) cs = some cs0 → mapO (fz k M0) cs0 = some xs → mapO (fz k m) cs = some xs := fun j h1 h2 => mapO_comp (fun v v' w h h' => ih j v v' w h h') h1 h2
    have part : ∀ {b b0 : Blk} {a n : Nat} {xs : List Value}, locB acc b = some b0 → b0.live = true → mapO (fz k M0) ((b0.cells.drop a).take n) = some xs → mapO (fz k m) ((b.cells.drop a).take n) = some xs := by
      intro b b0 a n xs h1 h2 h3
      obtain ⟨_, _, _, h4⟩ := locB_live h1 h2
      rcases h4 with ⟨h4, rfl⟩ | h4
      · rw [mapO_inertF (m := M0) (all_drop_take h4 a n)]
        exact h3
      · exact key 8 (mapO_takeE n (mapO_dropE a h4)) h3
    cases j with
    | zero => cases hv
    | succ j =>
      unfold rnV at hv
      split at hv
      · rename_i hp; cases hv; rw [fz_inert (m := M0) hp]; exact hw
      · split at hv
        · rename_i n o _
          obtain ⟨n0, h1, h2⟩ := ob_eq hv; cases h2
          rw [fz_ptr] at hw ⊢
          split at hw
          · rename_i b0 hb0
            obtain ⟨b, e1, e2⟩ := hblk n n0 h1 b0 hb0
            rw [e1]
            simp only
            split at hw
            · rename_i hl
              obtain ⟨l1, l2, l3, l4⟩ := locB_live e2 hl.1
              rw [if_pos ⟨l1, by omega⟩]
              obtain ⟨xs, q1, q2⟩ := ob_eq (show ob (mapO (fz k M0) (b0.cells.drop o)) (fun xs => some (roP xs)) = some w from hw)
              have := part (a := o) (n := b0.cells.length) e2 hl.1 (by rw [List.take_of_length_le (by simp)]; exact q1)
              rw [List.take_of_length_le (by simp; omega)] at this
              rw [this]
              exact q2
            · cases hw
          · cases hw
        · rename_i n o len cap _
          obtain ⟨n0, h1, h2⟩ := ob_eq hv; cases h2
          rw [fz_sl] at hw ⊢
          split at hw
          · rename_i h0; rw [if_pos h0]; exact hw
          · rename_i h0
            rw [if_neg h0]
            split at hw
            · rename_i b0 hb0
              obtain ⟨b, e1, e2⟩ := hblk n n0 h1 b0 hb0
              rw [e1]
              simp only
              split at hw
              · rename_i hl
                obtain ⟨l1, l2, l3, l4⟩ := locB_live e2 hl
                rw [if_pos l1]
                obtain ⟨cs, q1, q2⟩ := ob_eq (show ob (rd M0 n0 o (len * b0.es)) (fun cs => bo (fun xs => some (roS len xs)) (mapO (fz k M0) cs)) = some w from hw)
                obtain ⟨xs, q3, q4⟩ := ob_eq (show ob (mapO (fz k M0) cs) (fun xs => some (roS len xs)) = some w from q2)
                rw [l2]
                unfold rd at q1 ⊢
                split at q1
                · rename_i hz
                  rw [if_pos hz]
                  cases q1
                  simp only [bo_some']
                  cases q3
                  simpa [mapO] using q4
                · rename_i hz
                  rw [if_neg hz, e1]
                  rw [hb0] at q1
                  simp only at q1 ⊢
                  split at q1
                  · rename_i hc
                    rw [if_pos ⟨l1, by omega⟩]
                    cases q1
                    have := part e2 hl q3
                    simp only [bo_some']
                    rw [this]
                    exact q4
                  · cases q1
              · cases hw
            · cases hw
        · obtain ⟨xs, h1, h2⟩ := ob_eq hv; cases h2
          rw [fz_agg] at hw ⊢
          obtain ⟨ys, q1, q2⟩ := ob_eq (show ob (mapO (fz k M0) xs) (fun xs => some (Value.agg xs.toArray)) = some w from hw)
          rw [key j h1 q1]
          exact q2
        · obtain ⟨xs, h1, h2⟩ := ob_eq hv; cases h2
          have hw : ob (mapO (fz k M0) xs) (fun xs => some (Value.tuple xs.toArray)) = some w := hw
          obtain ⟨ys, q1, q2⟩ := ob_eq hw
          show ob (mapO (fz k m) _) (fun xs => some (Value.tuple xs.toArray)) = some w
          rw [key j h1 q1]
          exact q2
        · obtain ⟨xs, h1, h2⟩ := ob_eq hv
          obtain ⟨ys, h3, h4⟩ := ob_eq h2; cases h4
          have l1 := mapO_lenE h1
          have l2 := mapO_lenE h3
          rename_i fn a b _
          have hw : (if xs.toArray.size = 0 ∧ ys.toArray.size = 0 then some (Value.func fn #[] #[]) else none) = some w := hw
          show (if a.size = 0 ∧ b.size = 0 then some (Value.func fn #[] #[]) else none) = some w
          split at hw
          · rename_i hc
            rw [if_pos (by simp at hc l1 l2; simp_all)]
            exact hw
          · cases hw
        · cases hv
theorem Has.fz {k : Nat} {m : Mem} {v v0 w : Value} {acc : List Nat} {M0 : Mem} (H : Has m v acc v0 M0) (h : Ab.fz k M0 v0 = some w) : Ab.fz k m v = some w := fz_loc H.mem k 8 v v0 w H.val h
end Go.Ab
namespace Go.Ab
set_option linter.unusedSimpArgs false
set_option linter.unusedVariables false
section
variable {α : Type} (E : Enc α)
theorem hd_own (hE : E.Hard) (l : List α) : HdM [ownB E l] := fun N => ⟨[ownB E l], by
  show ob (shB N _ (ownB E l)) _ = _
  rw [shB_own E hE]
  rfl⟩
end
theorem hd_nil : HdM [] := fun N => ⟨[], rfl⟩
theorem f_ask {X : List Value → Mem → Option VM} {args fr : List Value} {m : Mem} {r : Value} (ha : mapO (fz 64 m) args = some fr) (hX : X fr [] = some (r, [])) (hr : hard r = true) : fcall X args m = some (r, m) := by
  rw [fcall_eq, ha, bo_some, hX, bo_some, rnV_p hr, bo_some]
  simp [mapB]
theorem mapO2 {f : Value → Option Value} {a b a' b' : Value} (h1 : f a = some a') (h2 : f b = some b') : mapO f [a, b] = some [a', b'] := by
  simp only [mapO, h1, h2]
  rfl
theorem mapO1 {f : Value → Option Value} {a a' : Value} (h1 : f a = some a') : mapO f [a] = some [a'] := by
  simp only [mapO, h1]
  rfl
end Go.Ab
namespace Go.Ab
set_option linter.unusedSimpArgs false
set_option linter.unusedVariables false
theorem mem_range' {a n x : Nat} : x ∈ List.range' a n ↔ a ≤ x ∧ x < a + n := by
  rw [List.mem_range'_1]
theorem Has.apart {m m' : Mem} {v v0 : Value} {M0 : Mem} {k N k' N' : Nat} (H : Has m v (List.range' k N) v0 M0) (g : ∀ n, n ∉ List.range' k' N' → m'[n]? = m[n]?) (hd : k + N ≤ k' ∨ k' + N' ≤ k) : Has m' v (List.range' k N) v0 M0 :=
  H.agree fun n hn => g n (by rw [mem_range'] at *; omega)
theorem out_range {m m' : Mem} {k' N' n : Nat} (g : ∀ n, n ∉ List.range' k' N' → m'[n]? = m[n]?) (h : n < k' ∨ k' + N' ≤ n) : m'[n]? = m[n]? := g n (by rw [mem_range']; omega)
theorem box_len {m M : Mem} {b : Blk} (h : m ++ [b] = M) : M.length = m.length + 1 := by rw [← h]; simp
theorem box_grow {m M : Mem} {b : Blk} (h : m ++ [b] = M) : ∀ n, n < m.length → M[n]? = m[n]? := fun n hn => by rw [← h]; exact grow_app _ _ n hn
theorem box_get {m M : Mem} {b : Blk} (h : m ++ [b] = M) : M[m.length]? = some b := by rw [← h]; simp
end Go.Ab
namespace Go.Ab
set_option linter.unusedSimpArgs false
set_option linter.unusedVariables false
def famI {α : Type} : List Nat → List (El α) → List Value
  | _, [] => []
  | ix, e :: r => e.a ++ (e.p.val (ix.headD 0) :: (e.b ++ famI (ix.drop e.p.n) r))
section
variable {α : Type} (E : Enc α)
theorem fam_own (es : List (El α)) (i : Nat) (b : Blk) (h : (famM E es)[i]? = some b) : ∃ l : List α, b = ownB E l := by
  obtain ⟨l, e⟩ := fam_ent0 E es i (List.getElem?_eq_some_iff.1 h).1
  rw [h] at e
  exact ⟨l, Option.some.inj e⟩
structure Fam (m : Mem) (j s : Nat) (ix : List Nat) (es : List (El α)) : Prop where
  out : m[j]? = some ⟨famI ix es, s, true, true⟩
  len : ix.length = famN es
  nod : (j :: ix).Nodup
  inn : ∀ (i : Nat) n b, ix[i]? = some n → (famM E es)[i]? = some b → m[n]? = some b
  ok : ∀ e ∈ es, e.ok E
theorem Fam.own {m : Mem} {j s : Nat} {ix : List Nat} {es : List (El α)} (H : Fam E m j s ix es) : ∀ n ∈ ix, ∃ l : List α, m[n]? = some (ownB E l) := by
  intro n hn
  obtain ⟨i, hi, rfl⟩ := List.getElem_of_mem hn
  have hb : i < (famM E es).length := by rw [famM_len, ← H.len]; exact hi
  obtain ⟨l, e⟩ := fam_own E es i _ (List.getElem?_eq_getElem hb)
  exact ⟨l, by rw [← e]; exact H.inn i _ _ (List.getElem?_eq_getElem hi) (List.getElem?_eq_getElem hb)⟩
end
end Go.Ab
namespace Go.Ab
set_option linter.unusedSimpArgs false
set_option linter.unusedVariables false
end Go.Ab
namespace Go.Ab
set_option linter.unusedSimpArgs false
set_option linter.unusedVariables false
section
variable {α : Type} (E : Enc α)
end
end Go.Ab
namespace Go.Ab
set_option linter.unusedSimpArgs false
set_option linter.unusedVariables false
section
variable {α : Type} (E : Enc α)
end
end Go.Ab
namespace Go.Ab
set_option linter.unusedSimpArgs false
set_option linter.unusedVariables false
def OkM (m : Mem) : Prop := ∀ b ∈ m, b.live = true ∧ locB (List.range m.length) b = some b ∧ ∀ n ∈ b.cells.flatMap (nmV 8), n < m.length
theorem OkM.loc {m : Mem} (H : OkM m) : locM m (List.range m.length) (List.range m.length) = some m := by
  refine locM_mk (by simp) fun i b hi => ?_
  have hl := (List.getElem?_eq_some_iff.1 hi).1
  exact ⟨i, b, List.getElem?_range hl, hi, (H b (List.mem_of_getElem? hi)).2.1⟩
section
variable {α : Type} (E : Enc α)
end
end Go.Ab
namespace Go.Ab
set_option linter.unusedSimpArgs false
set_option linter.unusedVariables false
end Go.Ab
namespace Go.Ab
set_option linter.unusedSimpArgs false
set_option linter.unusedVariables false
def lvN (m : Mem) (n : Nat) : Bool := match m[n]? with
  | some c => c.live && c.cells.all inert
  | none => false
section
variable {C : Cfg} {B : Nat} {ι : Emb} {m : Mem} {w : World}
end
end Go.Ab
namespace Go.Ab
set_option linter.unusedSimpArgs false
set_option linter.unusedVariables false
def dep : Nat → Value → Bool
  | 0, _ => false
  | k + 1, v => match v with
    | .agg cs => cs.toList.all (dep k)
    | .tuple cs => cs.toList.all (dep k)
    | _ => true
noncomputable def qB (m : Mem) (p nmd : Bool) (b : Blk) : Option Blk := if p = true then (if b.live = true ∧ nmd = false ∧ b.cells.all flat = true ∧ (b.cells.flatMap (nmV 8)).all (lvN m) = true then bo (fun cs => some ⟨cs, b.es, b.own, true⟩) (mapO (fz 64 m) b.cells) else none) else if b.cells.all inert = true then some ⟨b.cells, b.es, b.own && !nmd, b.live⟩ else none
def qN (ps : Nat → Bool) : Nat → List Blk → List Nat
  | _, [] => []
  | n, b :: r => (if ps n = true then b.cells.flatMap (nmV 8) else []) ++ qN ps (n + 1) r
noncomputable def qL (m : Mem) (ps nm : Nat → Bool) : Nat → List Blk → Option Mem
  | _, [] => some []
  | n, b :: r => bo (fun b' => bo (fun bs => some (b' :: bs)) (qL m ps nm (n + 1) r)) (qB m (ps n) (nm n) b)
end Go.Ab
namespace Go.Ab
set_option linter.unusedSimpArgs false
set_option linter.unusedVariables false
def znm : List Blk → List Nat
  | [] => []
  | b :: r => (if b.cells.all inert = true then [] else b.cells.flatMap (nmV 8)) ++ znm r
noncomputable def zB (m : Mem) (k : Nat) (ns : List Nat) (n : Nat) (b : Blk) : Option Blk := if b.cells.all inert = true then some ⟨b.cells, b.es, b.own && !(ns.contains n), b.live⟩ else if b.live = true ∧ b.cells.all flat = true ∧ (b.cells.flatMap (nmV 8)).all (fun n => lvN m n && decide (k ≤ n)) = true then bo (fun cs => some ⟨cs, b.es, b.own && !(ns.contains n), true⟩) (mapO (fz 64 m) b.cells) else none
noncomputable def zL (m : Mem) (k : Nat) (ns : List Nat) : Nat → List Blk → Option Mem
  | _, [] => some []
  | n, b :: r => bo (fun b' => bo (fun bs => some (b' :: bs)) (zL m k ns (n + 1) r)) (zB m k ns n b)
@[simp] theorem dep_agg (k : Nat) (cs : Array Value) : dep (k + 1) (.agg cs) = cs.toList.all (dep k) := (rfl)
@[simp] theorem dep_tuple (k : Nat) (cs : Array Value) : dep (k + 1) (.tuple cs) = cs.toList.all (dep k) := (rfl)
@[simp] theorem dep_int (k : Nat) (q : IntKind) (n : Int) : dep (k + 1) (.int q n) = true := (rfl)
@[simp] theorem dep_bool (k : Nat) (b : Bool) : dep (k + 1) (.bool b) = true := (rfl)
@[simp] theorem dep_sl (k : Nat) (p : Option Addr) (a b : Nat) : dep (k + 1) (.slice p a b) = true := (rfl)
@[simp] theorem dep_ptr (k : Nat) (p : Option Addr) : dep (k + 1) (.pointer p) = true := (rfl)
@[simp] theorem dep_iface (k n : Nat) (v : Value) : dep (k + 1) (.iface n v) = true := (rfl)
@[simp] theorem dep_str (k : Nat) (s : ByteArray) : dep (k + 1) (.string s) = true := (rfl)
@[simp] theorem dep_frS (k : Nat) {α : Type} (E : Enc α) (l : List α) : dep (k + 1) (frS E l) = true := (rfl)
@[simp] theorem lvN_eq (m : Mem) (n : Nat) : lvN m n = match m[n]? with
  | some c => c.live && c.cells.all inert
  | none => false := (rfl)
@[simp] theorem qN_nil (ps : Nat → Bool) (n : Nat) : qN ps n [] = [] := (rfl)
@[simp] theorem qN_cons (ps : Nat → Bool) (n : Nat) (b : Blk) (r : List Blk) : qN ps n (b :: r) = (if ps n = true then b.cells.flatMap (nmV 8) else []) ++ qN ps (n + 1) r := (rfl)
@[simp] theorem qL_nil (m : Mem) (ps nm : Nat → Bool) (n : Nat) : qL m ps nm n [] = some [] := (rfl)
@[simp] theorem qL_cons (m : Mem) (ps nm : Nat → Bool) (n : Nat) (b : Blk) (r : List Blk) : qL m ps nm n (b :: r) = bo (fun b' => bo (fun bs => some (b' :: bs)) (qL m ps nm (n + 1) r)) (qB m (ps n) (nm n) b) := (rfl)
@[simp] theorem qB_eq (m : Mem) (p nmd : Bool) (b : Blk) : qB m p nmd b = if p = true then (if b.live = true ∧ nmd = false ∧ b.cells.all flat = true ∧ (b.cells.flatMap (nmV 8)).all (lvN m) = true then bo (fun cs => some ⟨cs, b.es, b.own, true⟩) (mapO (fz 64 m) b.cells) else none) else if b.cells.all inert = true then some ⟨b.cells, b.es, b.own && !nmd, b.live⟩ else none := (rfl)
@[simp] theorem znm_nil : znm [] = [] := (rfl)
@[simp] theorem znm_cons (b : Blk) (r : List Blk) : znm (b :: r) = (if b.cells.all inert = true then [] else b.cells.flatMap (nmV 8)) ++ znm r := (rfl)
@[simp] theorem zL_nil (m : Mem) (k : Nat) (ns : List Nat) (n : Nat) : zL m k ns n [] = some [] := (rfl)
@[simp] theorem zL_cons (m : Mem) (k : Nat) (ns : List Nat) (n : Nat) (b : Blk) (r : List Blk) : zL m k ns n (b :: r) = bo (fun b' => bo (fun bs => some (b' :: bs)) (zL m k ns (n + 1) r)) (zB m k ns n b) := (rfl)
@[simp] theorem zB_eq (m : Mem) (k : Nat) (ns : List Nat) (n : Nat) (b : Blk) : zB m k ns n b = if b.cells.all inert = true then some ⟨b.cells, b.es, b.own && !(ns.contains n), b.live⟩ else if b.live = true ∧ b.cells.all flat = true ∧ (b.cells.flatMap (nmV 8)).all (fun n => lvN m n && decide (k ≤ n)) = true then bo (fun cs => some ⟨cs, b.es, b.own && !(ns.contains n), true⟩) (mapO (fz 64 m) b.cells) else none := (rfl)
end Go.Ab
namespace Go.Ab
set_option linter.unusedSimpArgs false
set_option linter.unusedVariables false
noncomputable section
section
variable {C : Cfg} {cf : CallF} {fn : Func} {k : Nat} {LL : List (Nat × List Tmp)} {J : Nat → List Value → Mem → Option VM}
variable (hC : CfgOK C) (hcf : CallOK C cf) {b : Code} (hJ : ∀ h ∈ heads b [], GoodL C k fn LL J h)
include hC hcf hJ
end
@[reducible] def Cfg.l0 (C : Cfg) : Cfg := ⟨C.P, C.ty, C.G, C.eqs, C.still, true⟩
theorem eqF_l0 (C : Cfg) : ∀ (fs : List (Nat × Nat)) (xs ys : Array Value), eqF C.l0 fs xs ys = eqF C fs xs ys
  | [], xs, ys => rfl
  | (off, ft) :: fs, xs, ys => by
    unfold eqF
    rw [eqF_l0 C fs]
theorem CfgOK.l0 {C : Cfg} (h : CfgOK C) : CfgOK C.l0 where
  ty := h.ty
  mixed := h.mixed
  eqs t fs ht hd xs ys b w he := h.eqs t fs ht hd xs ys b w (by rw [eqF_l0] at he; exact he)
theorem Con.l0 {C : Cfg} {f : FuncId} {args : List Value} {m m' : Mem} {v : Value} (h : Con C.l0 f args m v m') : Con C f args m v m' := h
def cloneV0 (sz : Nat) (m : Mem) (y : Value) : Option VM :=
  match y with
  | .iface len (.agg cs) => if len = 0 then some (.slice none 0 0, m) else if (cs.size = len * sz ∧ len < 1000000000) ∧ cs.toList.all hard = true then some (.slice (some ⟨m.length, 0, none⟩) len len, m ++ [⟨cs.toList, sz, true, true⟩]) else none
  | _ => none
def cloneC0 (sz : Nat) : List Value → Mem → Option VM
  | [x], m => bo (fun y => cloneV0 sz m y) (fz 64 m x)
  | _, _ => none
@[simp] theorem cloneC0_one (sz : Nat) (x : Value) (m : Mem) : cloneC0 sz [x] m = bo (fun y => cloneV0 sz m y) (fz 64 m x) := (rfl)
@[simp] theorem cloneV0_nil (sz : Nat) (m : Mem) : cloneV0 sz m (roS 0 []) = some (.slice none 0 0, m) := (rfl)
end
end Go.Ab
namespace Go.Ab
set_option linter.unusedSimpArgs false
set_option linter.unusedVariables false
end Go.Ab
