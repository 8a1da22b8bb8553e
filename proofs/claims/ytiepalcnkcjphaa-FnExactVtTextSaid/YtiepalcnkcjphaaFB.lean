/- Functions over values that stand for Go code, and the proof that the evaluator runs as they say. -/
import Derived.Test.YtiepalcnkcjphaaFA
import Derived.Test.YtiepalcnkcjphaaAbD
import Derived.KernelRfl
set_option linter.unusedVariables false
set_option linter.unusedSimpArgs false
namespace Go.Ab
noncomputable section
def gd (g : Value) (want : Bool) (x : Option VM) (m : Mem) : Option VM :=
  match g with
  | .bool b => if b = want then x else some (.tuple #[], m)
  | .tuple _ => some (.tuple #[], m)
  | _ => none
def gdN (g : Value) (want : Bool) (n : Option Nat) : Option Nat :=
  match g with
  | .bool b => if b = want then n else none
  | _ => none
def stb (n : Option Nat) (m m' : Mem) : Prop :=
  match n with
  | some n => (m'[n]?).map (fun x => (x.cells, x.live)) = (m[n]?).map (fun x => (x.cells, x.live))
  | none => True
def stbL : List (Option Nat × Mem × Mem) → Prop
  | [] => True
  | (n, a, b) :: l => stb n a b ∧ stbL l
open Classical in
def gP (P : Prop) (x : Option VM) : Option VM := if P then x else none
theorem gP_eq {P : Prop} {x : Option VM} {r : VM} (h : gP P x = some r) : P ∧ x = some r := by
  unfold gP at h
  split at h
  · exact ⟨‹_›, h⟩
  · cases h
section
variable (C : Cfg) (cf : CallF)
def guardV (ops : List Oper) (T : Tm) (j : Nat) : Option Value :=
  match ops[j]? with
  | some g => match g.dst with
    | some t => T.lookup t
    | none => none
  | none => none
def exOps (ops : List Oper) : List Oper → Tm → Mem → List Ev → (Tm → Mem → List Ev → Option VM) → Option VM
  | [], T, m, E, K => K T m E
  | o :: os, T, m, E, K => match o.guard with
    | none => opK C cf T m o fun v m' => exOps ops os (putD T o.dst v) m' (E ++ [⟨m, m', rdOf C T o⟩]) K
    | some (j, want) => ob (guardV ops T j) fun g => ob (gd g want (opK C cf T m o fun v m' => some (v, m')) m) fun r => exOps ops os (putD T o.dst r.1) r.2 (E ++ [⟨m, r.2, gdN g want (rdOf C T o)⟩]) K
end
section
variable {C : Cfg} {cf : CallF} {ops : List Oper}
theorem exStep_sound {T : Tm} {m : Mem} {o : Oper} {K : Value → Mem → Option Nat → Option VM} {r : VM}
    (h : (match o.guard with
      | none => opK C cf T m o fun v m' => K v m' (rdOf C T o)
      | some (j, want) => ob (guardV ops T j) fun g => ob (gd g want (opK C cf T m o fun v m' => some (v, m')) m) fun r => K r.1 r.2 (gdN g want (rdOf C T o))) = some r) :
    ∃ v m' n, aStep C cf ops T m o = some (putD T o.dst v, m', n) ∧ K v m' n = some r := by
  split at h
  · rename_i hg
    obtain ⟨v, m', h1, h2⟩ := opK_sound h
    refine ⟨v, m', _, ?_, h2⟩
    unfold aStep wantedA
    simp only [hg, h1]
  · rename_i j want hg
    obtain ⟨g, h1, h2⟩ := ob_eq h
    obtain ⟨y, h3, h4⟩ := ob_eq h2
    have hw : wantedA ops T o = (match some g with
        | some (.bool b) => some (b == want)
        | some (.tuple _) => some false
        | _ => none) := by
      rw [← h1]
      unfold wantedA guardV
      simp only [hg]
      cases ops[j]? with
      | none => rfl
      | some q =>
        simp only
        cases q.dst <;> rfl
    unfold gd at h3
    split at h3
    · rename_i b
      split at h3
      · rename_i hb
        subst hb
        obtain ⟨v, m', h5, h6⟩ := opK_sound h3
        cases h6
        refine ⟨v, m', rdOf C T o, ?_, ?_⟩
        · unfold aStep
          rw [hw]
          simp only [beq_self_eq_true, h5]
        · have : gdN (.bool b) b (rdOf C T o) = rdOf C T o := by unfold gdN; simp
          rw [this] at h4
          exact h4
      · rename_i hb
        cases h3
        refine ⟨.tuple #[], m, none, ?_, ?_⟩
        · unfold aStep
          rw [hw]
          have : (b == want) = false := by simpa using hb
          simp only [this]
        · have : gdN (.bool b) want (rdOf C T o) = none := by unfold gdN; simp [hb]
          rw [this] at h4
          exact h4
    · cases h3
      refine ⟨.tuple #[], m, none, ?_, h4⟩
      unfold aStep
      rw [hw]
    · cases h3
theorem exOps_sound : ∀ {os : List Oper} {T : Tm} {m : Mem} {E : List Ev} {K : Tm → Mem → List Ev → Option VM} {r : VM}, exOps C cf ops os T m E K = some r →
    ∃ E' T' m', aOps C cf ops os T m = some (E', T', m') ∧ K T' m' (E ++ E') = some r
  | [], T, m, E, K, r, h => ⟨[], T, m, rfl, by rw [List.append_nil]; exact h⟩
  | o :: os, T, m, E, K, r, h => by
    simp only [exOps] at h
    obtain ⟨v, m', n, h1, h2⟩ := exStep_sound (C := C) (cf := cf) (ops := ops) (T := T) (m := m) (o := o) (r := r) (K := fun v m' n => exOps C cf ops os (putD T o.dst v) m' (E ++ [⟨m, m', n⟩]) K) h
    obtain ⟨E', T', m2, h3, h4⟩ := exOps_sound h2
    refine ⟨⟨m, m', n⟩ :: E', T', m2, by simp only [aOps, h1, h3], ?_⟩
    rw [List.append_assoc] at h4
    exact h4
def ev0 : Ev := ⟨[], [], none⟩
theorem stbL_all : ∀ {l : List (Option Nat × Mem × Mem)}, stbL l → ∀ x ∈ l, stb x.1 x.2.1 x.2.2
  | [], _, x, hx => by cases hx
  | (n, a, b) :: l, h, x, hx => by
    rw [List.mem_cons] at hx
    rcases hx with rfl | hx
    · exact h.1
    · exact stbL_all h.2 x hx
theorem stable_stb {E : List Ev} (h : stbL ((pairsOf C ops).map fun p => ((E.getD p.1 ev0).name, (E.getD p.2 ev0).before, (E.getD p.2 ev0).after))) : Stable C ops E := by
  intro p hp
  have := stbL_all h _ (List.mem_map_of_mem hp)
  unfold stab
  cases h1 : E[p.1]? with
  | none => trivial
  | some a =>
    cases h2 : E[p.2]? with
    | none => trivial
    | some b =>
      simp only [List.getD_eq_getElem?_getD, h1, h2, Option.getD_some, stb] at this
      exact this
end
def regC : Code → Option Nat
  | .region id _ _ => some id
  | .seq a b => match regC a with
    | some n => some n
    | none => regC b
  | .cond _ a b => match regC a with
    | some n => some n
    | none => regC b
  | .block _ c => regC c
  | .loop c => regC c
  | _ => none
def labC (c : Code) : Nat := (regC c).getD 0
def brX (v : Value) (a b : Option VM) : Option VM :=
  match v with
  | .bool t => if t = true then a else b
  | _ => none
def tupOf (vs : List Value) : Value :=
  match vs with
  | [v] => v
  | vs => .tuple vs.toArray
def resP (q : Option Nat) (m : Mem) (p : Value) : Option Value :=
  match p with
  | .pointer (some a) => match q with
    | none => one (rd m a.block a.off 1)
    | some s => ob (rd m a.block a.off s) fun cs => some (.agg cs.toArray)
  | _ => none
def cutK (k : Nat) (m : Mem) (pv vs : List Value) (J : List Value → Mem → Option VM) : Option VM :=
  ob (reachF 4194304 m (List.range k ++ vs.flatMap (nmV 8)) []) fun acc => if preB 0 k acc = true ∧ (entOk k m pv || entC k m) = true then
    ob (mapO (rnV 8 inert (ixOf acc)) vs) fun vs0 => ob (locM m acc acc) fun m0 => J vs0 m0 else none
def retK (k : Nat) (m : Mem) (pv : List Value) (v : Value) : Option VM :=
  ob (reachF 4194304 m (List.range k ++ nmV 8 v) []) fun acc => if preB 0 k acc = true ∧ (entOk k m pv || entC k m) = true then
    ob (rnV 8 inert (ixOf acc) v) fun v0 => ob (locM m acc acc) fun m0 => some (v0, m0) else none
section
variable (C : Cfg) (cf : CallF)
def resK (T : Tm) (m : Mem) : List ResultVar → (List Value → Option VM) → Option VM
  | [], K => K []
  | .tmp t :: rs, K => ob (T.lookup t) fun v => resK T m rs fun vs => K (v :: vs)
  | .cell a t :: rs, K => ob (kindOf C t) fun q => ob (T.lookup a) fun p => ob (resP q m p) fun v => resK T m rs fun vs => K (v :: vs)
def evT (T : Tm) : List Tmp → (List Value → Option VM) → Option VM
  | [], K => K []
  | t :: ts, K => ob (T.lookup t) fun v => evT T ts fun vs => K (v :: vs)
def ex (fn : Func) (np k : Nat) (LL : List (Nat × List Tmp)) (J : Nat → List Value → Mem → Option VM) : Nat → List Item → Tm → Mem → Option VM
  | 0, _, _, _ => none
  | j + 1, todo, T, m => match todo with
    | [] => resK C T m fn.results.toList fun vs => retK k m (pvs T np) (tupOf vs)
    | .inBlock _ :: r => ex fn np k LL J j r T m
    | .inLoop c :: _ => ob (LL.lookup (labC c)) fun live => evT T live fun vs => cutK k m (pvs T np) vs (J (labC c))
    | .code c :: r => match c with
      | .skip => ex fn np k LL J j r T m
      | .ret => resK C T m fn.results.toList fun vs => retK k m (pvs T np) (tupOf vs)
      | .seq a b => ex fn np k LL J j (.code a :: .code b :: r) T m
      | .block id c => ex fn np k LL J j (.code c :: .inBlock id :: r) T m
      | .loop c => ob (LL.lookup (labC c)) fun live => evT T live fun vs => cutK k m (pvs T np) vs (J (labC c))
      | .exit id => match exitTo id r with
        | some r' => ex fn np k LL J j r' T m
        | none => none
      | .cond c a b => ob (ev C T c) fun v => brX v (ex fn np k LL J j (.code a :: r) T m) (ex fn np k LL J j (.code b :: r) T m)
      | .region _ ops draw => exOps C cf ops.toList ops.toList T m [] fun T' m' E => match draw && !(pairsOf C ops.toList).isEmpty with
        | true => gP (stbL ((pairsOf C ops.toList).map fun p => ((E.getD p.1 ev0).name, (E.getD p.2 ev0).before, (E.getD p.2 ev0).after))) (ex fn np k LL J j r T' m')
        | false => ex fn np k LL J j r T' m'
      | _ => none
    | _ => none
end
def GrowK (k : Nat) (m m' : Mem) : Prop := ∀ (n : Nat) b, n < k → m[n]? = some b → ∃ b', m'[n]? = some b' ∧ b'.es = b.es ∧ (b'.own = true → b.own = true) ∧ (b'.live = true → b.live = true)
theorem GrowK.of {k : Nat} {m m1 m2 : Mem} (h : Grow m m1) (g : GrowK k m1 m2) : GrowK k m m2 := by
  intro n b hn hb
  obtain ⟨b1, h1, h2, h3, h4⟩ := h.2 n b hb
  obtain ⟨b2, g1, g2, g3, g4⟩ := g n b1 hn h1
  exact ⟨b2, g1, g2.trans h2, fun h => h3 (g3 h), fun h => h4 (g4 h)⟩
theorem GrowK.sim {k : Nat} {m m0 m' : Mem} {π : Nat → Option Nat} (S : SimM inert π m0 m) (hp : ∀ n, n < k → π n = some n) (g : GrowK k m0 m') : GrowK k m m' := by
  intro n b hn hb
  have h0 := S.dom n n (hp n hn)
  obtain ⟨b1, h1, s⟩ := S.blk n n _ (List.getElem?_eq_getElem h0) (hp n hn)
  rw [hb] at h1
  cases h1
  obtain ⟨b2, g1, g2, g3, g4⟩ := g n _ hn (List.getElem?_eq_getElem h0)
  exact ⟨b2, g1, g2.trans s.es.symm, fun h => by rw [s.own]; exact g3 h, fun h => by rw [s.live]; exact g4 h⟩
def RunG (C : Cfg) (k : Nat) (fn : Func) (todo : List Item) (T : Tm) (m : Mem) (r : VM) : Prop := Run C k fn todo T m r.1 r.2 ∧ GrowK k m r.2
def labI (h : List Item) : Nat :=
  match h with
  | .code c :: _ => labC c
  | _ => 0
def GoodL (C : Cfg) (k : Nat) (fn : Func) (LL : List (Nat × List Tmp)) (J : Nat → List Value → Mem → Option VM) (h : List Item) : Prop :=
  ∀ live vs m r, LL.lookup (labI h) = some live → vs.length = live.length → k ≤ m.length → J (labI h) vs m = some r → RunG C k fn h (live.zip vs) m r
def headsI : List Item → List (List Item)
  | [] => []
  | .code c :: r => heads c r ++ headsI r
  | .inLoop c :: r => (.code c :: .inLoop c :: r) :: heads c (.inLoop c :: r) ++ headsI r
  | _ :: r => headsI r
theorem heads_sub : ∀ (c : Code) (r : List Item), ∀ q ∈ heads c r, ∀ x ∈ headsI q, x ∈ heads c r ∨ x ∈ headsI r
  | .seq a b, r, q, hq, x, hx => by
    simp only [heads, List.mem_append] at hq ⊢
    rcases hq with hq | hq
    · rcases heads_sub a _ q hq x hx with h | h
      · exact .inl (.inl h)
      · simp only [headsI, List.mem_append] at h
        rcases h with h | h
        · exact .inl (.inr h)
        · exact .inr h
    · rcases heads_sub b _ q hq x hx with h | h
      · exact .inl (.inr h)
      · exact .inr h
  | .cond _ a b, r, q, hq, x, hx => by
    simp only [heads, List.mem_append] at hq ⊢
    rcases hq with hq | hq
    · rcases heads_sub a _ q hq x hx with h | h
      · exact .inl (.inl h)
      · exact .inr h
    · rcases heads_sub b _ q hq x hx with h | h
      · exact .inl (.inr h)
      · exact .inr h
  | .block id c, r, q, hq, x, hx => by
    simp only [heads] at hq ⊢
    rcases heads_sub c _ q hq x hx with h | h
    · exact .inl h
    · exact .inr (by simpa [headsI] using h)
  | .loop c, r, q, hq, x, hx => by
    simp only [heads, List.mem_cons] at hq ⊢
    have key : x ∈ headsI (.inLoop c :: r) → (x = .code c :: .inLoop c :: r ∨ x ∈ heads c (.inLoop c :: r)) ∨ x ∈ headsI r := by
      intro h
      simp only [headsI, List.mem_cons, List.mem_append, List.cons_append] at h
      rcases h with h | h | h
      · exact .inl (.inl h)
      · exact .inl (.inr h)
      · exact .inr h
    rcases hq with rfl | hq
    · have h : x ∈ heads c (.inLoop c :: r) ++ headsI (.inLoop c :: r) := hx
      rw [List.mem_append] at h
      rcases h with h | h
      · exact .inl (.inr h)
      · exact key h
    · rcases heads_sub c _ q hq x hx with h | h
      · exact .inl (.inr h)
      · exact key h
  | .skip, r, q, hq, _, _ => by simp [heads] at hq
  | .region _ _ _, r, q, hq, _, _ => by simp [heads] at hq
  | .rangeFunc _ _ _ _, r, q, hq, _, _ => by simp [heads] at hq
  | .exit _, r, q, hq, _, _ => by simp [heads] at hq
  | .scope _, r, q, hq, _, _ => by simp [heads] at hq
  | .label _, r, q, hq, _, _ => by simp [heads] at hq
  | .goto _, r, q, hq, _, _ => by simp [heads] at hq
  | .ret, r, q, hq, _, _ => by simp [heads] at hq
  | .refuse _, r, q, hq, _, _ => by simp [heads] at hq
section
variable {C : Cfg} {cf : CallF} {fn : Func} {np k : Nat} {LL : List (Nat × List Tmp)} {J : Nat → List Value → Mem → Option VM}
theorem evT_sound {T : Tm} {r : VM} : ∀ {ts : List Tmp} {K : List Value → Option VM}, evT T ts K = some r → ∃ vs, vs.length = ts.length ∧ (∀ (i : Nat) t v, ts[i]? = some t → vs[i]? = some v → T.lookup t = some v) ∧ K vs = some r
  | [], K, h => ⟨[], rfl, fun i t v h => by simp at h, h⟩
  | t :: ts, K, h => by
    obtain ⟨v, h1, h2⟩ := ob_eq h
    obtain ⟨vs, h3, h4, h5⟩ := evT_sound h2
    refine ⟨v :: vs, by simp [h3], fun i t' v' e1 e2 => ?_, h5⟩
    cases i with
    | zero => simp at e1 e2; subst e1 e2; exact h1
    | succ i => simp at e1 e2; exact h4 i t' v' e1 e2
theorem resK_sound {T : Tm} {m : Mem} {r : VM} : ∀ {rs : List ResultVar} {K : List Value → Option VM}, resK C T m rs K = some r → ∃ vs, resL C m T rs = some vs ∧ K vs = some r
  | [], K, h => ⟨[], rfl, h⟩
  | .tmp t :: rs, K, h => by
    obtain ⟨v, h1, h2⟩ := ob_eq h
    obtain ⟨vs, h3, h4⟩ := resK_sound h2
    exact ⟨v :: vs, by simp only [resL, resOf, h1, h3], h4⟩
  | .cell a t :: rs, K, h => by
    obtain ⟨q, h1, h2⟩ := ob_eq h
    obtain ⟨p, h3, h4⟩ := ob_eq h2
    obtain ⟨v, h5, h6⟩ := ob_eq h4
    obtain ⟨vs, h7, h8⟩ := resK_sound h6
    refine ⟨v :: vs, ?_, h8⟩
    obtain ⟨hoe, hk⟩ := kind_ty h1
    have : resOf C m T (.cell a t) = some v := by
      unfold resP at h5
      unfold resOf
      split at h5
      · simp only [h3]
        rcases hk with ⟨fs, hd, rfl⟩ | ⟨hd, rfl⟩
        · obtain ⟨cs, e1, e2⟩ := ob_eq h5
          cases e2
          simp only [hd, e1]
        · split
          · rename_i e; rw [e] at hoe; cases hoe
          · rename_i gs e; exact absurd e (hd gs)
          · exact h5
      · cases h5
    simp only [resL, this, h7]
theorem zip_simT {π : Nat → Option Nat} {T : Tm} : ∀ {live : List Tmp} {vs vs0 : List Value}, vs.length = live.length → (∀ (i : Nat) t v, live[i]? = some t → vs[i]? = some v → T.lookup t = some v) → RNL inert π vs0 vs → SimT inert π T (live.zip vs0)
  | [], vs, vs0, _, _, _ => by simp [SimT]
  | t :: live, [], vs0, h, _, _ => by simp at h
  | t :: live, v :: vs, [], _, _, h => by have := h.1; simp at this
  | t :: live, v :: vs, v0 :: vs0, hl, hv, h => by
    refine ⟨⟨v, hv 0 t v rfl rfl, h.2 0 v0 v rfl rfl⟩, zip_simT (vs := vs) (by simpa using hl) (fun i t' v' e1 e2 => hv (i + 1) t' v' e1 e2) ⟨by have := h.1; simpa using this, fun i x y e1 e2 => h.2 (i + 1) x y e1 e2⟩⟩
theorem cutK_sound (hG : C.G ≤ k) {todo : List Item} {T : Tm} {m : Mem} {live : List Tmp} {vs : List Value} {r : VM} {J : List Value → Mem → Option VM} (hl : vs.length = live.length) (hv : ∀ (i : Nat) t v, live[i]? = some t → vs[i]? = some v → T.lookup t = some v)
    (h : cutK k m (pvs T np) vs J = some r) (hJ : ∀ vs0 m0, vs0.length = live.length → k ≤ m0.length → J vs0 m0 = some r → RunG C k fn todo (live.zip vs0) m0 r) : RunG C k fn todo T m r := by
  obtain ⟨acc, h1, h2⟩ := ob_eq h
  split at h2
  · rename_i hc
    obtain ⟨vs0, h3, h4⟩ := ob_eq h2
    obtain ⟨m0, h5, h6⟩ := ob_eq h4
    have hnd := (reach_ok h1 List.nodup_nil (fun n hn => by cases hn)).1
    have S := loc_sim hnd h5
    have hrn := (rnL_sound h3).symm (ixOf_inv acc)
    have hpre : ∀ n, n < k → (fun i => acc[i]?) n = some n := fun n hn => by have := preB_get hc.1 n hn; rwa [Nat.zero_add] at this
    have hk : k ≤ m0.length := by
      rcases Nat.eq_zero_or_pos k with h0 | h0
      · omega
      · have := S.dom (k - 1) (k - 1) (hpre (k - 1) (by omega))
        omega
    have hj := hJ vs0 m0 (by rw [hrn.1]; exact hl) hk h6
    exact ⟨Run.norm _ (zip_simT hl hv hrn) S (ent_ok2 hc.2 hc.1 h5) hG hj.1, .sim S hpre hj.2⟩
  · cases h2
theorem retK_sound {todo : List Item} {T : Tm} {m : Mem} {v : Value} {r : VM} (h : retK k m (pvs T np) v = some r) (hr : Run C k fn todo T m v m) : RunG C k fn todo T m r := by
  obtain ⟨acc, h1, h2⟩ := ob_eq h
  split at h2
  · rename_i hc
    obtain ⟨v0, h3, h4⟩ := ob_eq h2
    obtain ⟨m0, h5, h6⟩ := ob_eq h4
    cases h6
    have hnd := (reach_ok h1 List.nodup_nil (fun n hn => by cases hn)).1
    have S := loc_sim hnd h5
    have hrn := (rnV_sound _ _ _ h3).symm (ixOf_inv acc)
    have hE := ent_ok2 hc.2 hc.1 h5
    refine ⟨Run.postE S hrn hE hr, ?_⟩
    intro n b hn hb
    have h0 := S.dom n n (hE n hn).1
    obtain ⟨b1, e1, s⟩ := S.blk n n _ (List.getElem?_eq_getElem h0) (hE n hn).1
    rw [hb] at e1
    cases e1
    exact ⟨_, List.getElem?_eq_getElem h0, s.es.symm, fun h => by rw [s.own]; exact h, fun h => by rw [s.live]; exact h⟩
  · cases h2
theorem tup_res {T : Tm} {m : Mem} {vs : List Value} (h : resL C m T fn.results.toList = some vs) : resultA C fn m T = some (tupOf vs) := by
  unfold resultA tupOf
  rw [h]
  split <;> simp_all
variable (hC : CfgOK C) (h0 : C.G = 0) (hcf : CallOK C cf) {b : Code} (hJ : ∀ h ∈ heads b [], GoodL C k fn LL J h)
include hC h0 hcf hJ
theorem ex_sound : ∀ (j : Nat) (todo : List Item) (T : Tm) (m : Mem) (r : VM), ex C cf fn np k LL J j todo T m = some r → k ≤ m.length → (∀ i ∈ todo, itemOk C fn i = true) → (∀ h ∈ headsI todo, h ∈ heads b []) → RunG C k fn todo T m r := by
  intro j
  induction j with
  | zero => intro todo T m r h; simp [ex] at h
  | succ j ih =>
    intro todo T m r h hkm hok hhd
    have lift : ∀ {todo' : List Item}, RunG C k fn todo' T m r → (∀ {v m'}, Run C k fn todo' T m v m' → Run C k fn todo T m v m') → RunG C k fn todo T m r := fun g f => ⟨f g.1, g.2⟩
    have lp : ∀ {c : Code} {q : List Item}, (.code c :: .inLoop c :: q) ∈ heads b [] → (ob (LL.lookup (labC c)) fun live => evT T live fun vs => cutK k m (pvs T np) vs (J (labC c))) = some r → RunG C k fn (.code c :: .inLoop c :: q) T m r := by
      intro c q hmem h
      obtain ⟨live, h1, h2⟩ := ob_eq h
      obtain ⟨vs, h3, h4, h5⟩ := evT_sound h2
      exact cutK_sound (by omega) h3 h4 h5 fun vs0 m0 e1 e2 e3 => hJ _ hmem live vs0 m0 r h1 e1 e2 e3
    unfold ex at h
    split at h
    · obtain ⟨vs, h1, h2⟩ := resK_sound h
      exact retK_sound h2 (.end hC (tup_res h1))
    · exact lift (ih _ _ _ _ h hkm (fun i hi => hok i (List.mem_cons_of_mem _ hi)) (fun x hx => hhd x hx)) .inBlock
    · rename_i c r'
      exact lift (lp (hhd _ (by simp [headsI])) h) .inLoop
    · rename_i c r'
      have hc := hok (.code c) (List.mem_cons_self ..)
      have hr : ∀ i ∈ r', itemOk C fn i = true := fun i hi => hok i (List.mem_cons_of_mem _ hi)
      have cons : ∀ {x : Item} {l : List Item}, itemOk C fn x = true → (∀ i ∈ l, itemOk C fn i = true) → ∀ i ∈ x :: l, itemOk C fn i = true := by
        intro x l h1 h2 i hi
        rw [List.mem_cons] at hi
        rcases hi with rfl | hi
        · exact h1
        · exact h2 i hi
      have hd1 : ∀ x ∈ heads c r', x ∈ heads b [] := fun x hx => hhd x (by simp [headsI, hx])
      have hd2 : ∀ x ∈ headsI r', x ∈ heads b [] := fun x hx => hhd x (by simp [headsI, hx])
      split at h
      · exact lift (ih _ _ _ _ h hkm hr hd2) .skip
      · obtain ⟨vs, h1, h2⟩ := resK_sound h
        exact retK_sound h2 (.ret hC (tup_res h1))
      · rename_i a b'
        have hc' : codeOk C fn a = true ∧ codeOk C fn b' = true := by
          have : (codeOk C fn a && codeOk C fn b') = true := hc
          simpa using this
        refine lift (ih _ _ _ _ h hkm (cons hc'.1 (cons hc'.2 hr)) (fun x hx => ?_)) .seq
        simp only [headsI, List.mem_append] at hx
        simp only [heads, List.mem_append] at hd1
        rcases hx with hx | hx | hx
        · exact hd1 x (.inl hx)
        · exact hd1 x (.inr hx)
        · exact hd2 x hx
      · rename_i id c'
        refine lift (ih _ _ _ _ h hkm (cons hc (cons rfl hr)) (fun x hx => ?_)) .block
        simp only [headsI, List.mem_append] at hx
        simp only [heads] at hd1
        rcases hx with hx | hx
        · exact hd1 x hx
        · exact hd2 x hx
      · rename_i c'
        refine lift (lp (hd1 _ (by simp [heads])) h) .loop
      · rename_i id
        split at h
        · rename_i r2 he
          refine lift (ih _ _ _ _ h hkm (fun i hi => hr i (exitTo_mem he i hi)) (fun x hx => hd2 x ?_)) (.exit he)
          have key : ∀ {q q2 : List Item}, exitTo id q = some q2 → ∀ x ∈ headsI q2, x ∈ headsI q := by
            intro q
            induction q with
            | nil => intro q2 h; simp [exitTo] at h
            | cons i q ihq =>
              intro q2 h x hx
              have up : ∀ {y}, y ∈ headsI q → y ∈ headsI (i :: q) := by
                intro y hy
                cases i <;> simp [headsI, hy]
              unfold exitTo at h
              split at h
              · rename_i e
                cases e
                split at h
                · cases h; exact up hx
                · exact up (ihq h x hx)
              · rename_i e
                cases e
                exact up (ihq h x hx)
              · rename_i e
                cases e
          exact key he x hx
        · cases h
      · rename_i c' a b'
        have hc' : codeOk C fn a = true ∧ codeOk C fn b' = true := by
          have : (codeOk C fn a && codeOk C fn b') = true := hc
          simpa using this
        simp only [heads, List.mem_append] at hd1
        obtain ⟨v, h1, h2⟩ := ob_eq h
        unfold brX at h2
        split at h2
        · rename_i t
          split at h2
          · rename_i ht
            subst ht
            refine lift (ih _ _ _ _ h2 hkm (cons hc'.1 hr) (fun x hx => ?_)) (.tt h1)
            simp only [headsI, List.mem_append] at hx
            rcases hx with hx | hx
            · exact hd1 x (.inl hx)
            · exact hd2 x hx
          · rename_i ht
            have ht : t = false := by simpa using ht
            subst ht
            refine lift (ih _ _ _ _ h2 hkm (cons hc'.2 hr) (fun x hx => ?_)) (.ff h1)
            simp only [headsI, List.mem_append] at hx
            rcases hx with hx | hx
            · exact hd1 x (.inr hx)
            · exact hd2 x hx
        · cases h2
      · rename_i id opsA draw
        have hreg : regOk C fn.ntmps opsA.toList draw = true := hc
        unfold regOk at hreg
        simp only [Bool.and_eq_true, Bool.or_eq_true, Bool.not_eq_true'] at hreg
        obtain ⟨E, T', m', h1, h2⟩ := exOps_sound h
        simp only [List.nil_append] at h2
        have hgr := aOps_grows (call_grow hcf) h1
        have hkm' : k ≤ m'.length := Nat.le_trans hkm hgr.1
        have fin : ∀ (_ : draw = true → Stable C opsA.toList E), ex C cf fn np k LL J j r' T' m' = some r → RunG C k fn (.code (.region id opsA draw) :: r') T m r := by
          intro hst h3
          have g := ih _ _ _ _ h3 hkm' hr hd2
          refine ⟨Run.region hC hcf (T1 := T') (m1 := m') ?_ g.1, .of hgr g.2⟩
          unfold aRegion
          rw [if_pos hreg.1, h1]
          simp only
          cases draw with
          | false => rfl
          | true =>
            rw [if_pos rfl, if_pos]
            exact ⟨by simpa using hreg.2, hst rfl⟩
        split at h2
        · obtain ⟨h3, h4⟩ := gP_eq h2
          exact fin (fun _ => stable_stb h3) h4
        · rename_i hb
          refine fin (fun hd => ?_) h2
          rw [hd] at hb
          have : (pairsOf C opsA.toList).isEmpty = true := by simpa using hb
          intro p hp
          rw [List.isEmpty_iff] at this
          rw [this] at hp
          cases hp
      · cases h
    · cases h
end
end
end Go.Ab
namespace Go.Ab
noncomputable section
def OkX (C : Cfg) (f : FuncId) (X : List Value → Mem → Option VM) : Prop := ∀ args m v m', X args m = some (v, m') → Closed m → RNL inert (low m.length) args args → Con C f args m v m'
def OkC (C : Cfg) (f : FuncId) (X : List Value → Mem → Option VM) : Prop := ∀ args m v m', X args m = some (v, m') → Con C f args m v m'
theorem OkX.of_ex {C : Cfg} {cf : CallF} {fn : Func} {f : FuncId} {c : Code} {np : Nat} {LL : List (Nat × List Tmp)} {J : Nat → Nat → List Value → Mem → Option VM} {X : List Value → Mem → Option VM} (hC : CfgOK C) (h0 : C.G = 0)
    (hg : C.P.funcs[f]? = some fn) (hb : fn.body = some c) (hl : np ≤ fn.ntmps) (hn : (fn.name == "runtime.NumGoroutine") = false) (hok : codeOk C fn c = true) (hcf : CallOK C cf)
    (hJ : ∀ k, ∀ h ∈ heads c [], GoodL C k fn LL (J k) h)
    (hX : ∀ args m r, X args m = some r → args.length = np ∧ ex C cf fn np m.length LL (J m.length) 400 [.code c] (argsT 0 args) m = some r) : OkX C f X := by
  intro args m v m' h hm hlow
  obtain ⟨h1, h2⟩ := hX _ _ _ h
  have g := ex_sound hC h0 hcf (hJ m.length) 400 _ _ _ _ h2 (Nat.le_refl _) (fun i hi => by
    simp only [List.mem_singleton] at hi
    subst hi
    exact hok) (fun x hx => by simpa [headsI] using hx)
  have hlen : m.length ≤ m'.length := by
    rcases Nat.eq_zero_or_pos m.length with h3 | h3
    · omega
    · obtain ⟨b', h4, _⟩ := g.2 (m.length - 1) _ (by omega) (List.getElem?_eq_getElem (by omega))
      have := (List.getElem?_eq_some_iff.1 h4).1
      simp only at this
      omega
  refine Con.of_run hg hb (by omega) hn (by omega) ⟨hlen, fun k b hk => ?_⟩ hm hlow g.1
  exact g.2 k b (List.getElem?_eq_some_iff.1 hk).1 hk
def fz : Nat → Mem → Value → Option Value
  | 0, _, _ => none
  | k + 1, m, v => match v with
    | .agg cs => ob (mapO (fz k m) cs.toList) fun xs => some (.agg xs.toArray)
    | .tuple cs => ob (mapO (fz k m) cs.toList) fun xs => some (.tuple xs.toArray)
    | .slice none 0 0 => some (roS 0 [])
    | .slice (some p) len _ => if len = 0 then some (roS 0 []) else match m[p.block]? with
      | some b => if b.live = true then ob (rd m p.block p.off (len * b.es)) fun cs => ob (mapO (fz k m) cs) fun xs => some (roS len xs) else none
      | none => none
    | .pointer (some p) => match m[p.block]? with
      | some b => if b.live = true ∧ p.off ≤ b.cells.length then ob (mapO (fz k m) (b.cells.drop p.off)) fun xs => some (roP xs) else none
      | none => none
    | .pointer none => some (.pointer none)
    | .func fn a b => if a.size = 0 ∧ b.size = 0 then some (.func fn #[] #[]) else none
    | .bool b => some (.bool b)
    | .int k n => some (.int k n)
    | .string s => some (.string s)
    | .nilFunc => some .nilFunc
    | .iface n x => some (.iface n x)
    | _ => none
theorem mapO_frz {f : Value → Option Value} {g : Value → Option (Value × List Nat)} (hf : ∀ v v', f v = some v' → ∃ ns, g v = some (v', ns)) : ∀ {vs ys : List Value}, mapO f vs = some ys → ∃ ns, mapF g vs = some (ys, ns)
  | [], ys, h => by cases h; exact ⟨[], rfl⟩
  | x :: xs, ys, h => by
    obtain ⟨y, h1, h2⟩ := ob_eq h
    obtain ⟨zs, h3, h4⟩ := ob_eq h2
    cases h4
    obtain ⟨n1, e1⟩ := hf _ _ h1
    obtain ⟨n2, e2⟩ := mapO_frz hf h3
    exact ⟨n1 ++ n2, by simp only [mapF, e1, e2]⟩
theorem fz_sound (m : Mem) : ∀ (k : Nat) v v', fz k m v = some v' → ∃ ns, frz k m v = some (v', ns) := by
  intro k
  induction k with
  | zero => intro v v' h; cases h
  | succ k ih =>
    intro v v' h
    unfold fz at h
    unfold frz
    split at h
    · obtain ⟨xs, h1, h2⟩ := ob_eq h; cases h2
      obtain ⟨ns, e⟩ := mapO_frz ih h1
      exact ⟨ns, by simp only [e]⟩
    · obtain ⟨xs, h1, h2⟩ := ob_eq h; cases h2
      obtain ⟨ns, e⟩ := mapO_frz ih h1
      exact ⟨ns, by simp only [e]⟩
    · cases h; exact ⟨[], rfl⟩
    · split at h
      · rename_i h0; cases h; exact ⟨[], by simp only [h0, if_true]⟩
      · rename_i h0
        split at h
        · rename_i b hb
          split at h
          · rename_i hl
            obtain ⟨cs, h1, h2⟩ := ob_eq h
            obtain ⟨xs, h3, h4⟩ := ob_eq h2
            cases h4
            obtain ⟨ns, e⟩ := mapO_frz ih h3
            exact ⟨_, by simp only [h0, if_false, hb, hl, if_true, h1, e]; rfl⟩
          · cases h
        · cases h
    · split at h
      · rename_i b hb
        split at h
        · rename_i hl
          obtain ⟨xs, h3, h4⟩ := ob_eq h
          cases h4
          obtain ⟨ns, e⟩ := mapO_frz ih h3
          exact ⟨_, by simp only [hb]; rw [if_pos hl]; simp only [e]; rfl⟩
        · cases h
      · cases h
    · cases h; exact ⟨[], rfl⟩
    · split at h
      · rename_i hs; cases h; exact ⟨[], by simp only []; rw [if_pos hs]⟩
      · cases h
    · cases h; exact ⟨[], rfl⟩
    · cases h; exact ⟨[], rfl⟩
    · cases h; exact ⟨[], rfl⟩
    · cases h; exact ⟨[], rfl⟩
    · cases h; exact ⟨[], rfl⟩
    · cases h
def sft (N k : Nat) (n : Nat) : Option Nat := if n < k then some (n + N) else none
def shB (N k : Nat) (b : Blk) : Option Blk :=
  if b.live = true ∧ b.own = true then (if b.cells.all hard = true then some b else ob (mapO (rnV 8 hard (sft N k)) b.cells) fun cs => some { b with cells := cs }) else none
def mapB (f : Blk → Option Blk) : Mem → Option Mem
  | [] => some []
  | b :: bs => ob (f b) fun b' => ob (mapB f bs) fun bs' => some (b' :: bs')
theorem mapB_get {f : Blk → Option Blk} : ∀ {m m' : Mem}, mapB f m = some m' → m'.length = m.length ∧ ∀ (i : Nat) b b', m[i]? = some b → m'[i]? = some b' → f b = some b'
  | [], m', h => by cases h; exact ⟨rfl, fun i b b' h => by simp at h⟩
  | b :: bs, m', h => by
    obtain ⟨c, h1, h2⟩ := ob_eq h
    obtain ⟨cs, h3, h4⟩ := ob_eq h2
    cases h4
    obtain ⟨e1, e2⟩ := mapB_get h3
    refine ⟨by simp [e1], fun i x y hx hy => ?_⟩
    cases i with
    | zero => simp at hx hy; subst hx hy; exact h1
    | succ i => simp at hx hy; exact e2 i x y hx hy
def fcall (X : List Value → Mem → Option VM) (args : List Value) (m : Mem) : Option VM :=
  ob (mapO (fz 64 m) args) fun as => ob (X as []) fun r => ob (rnV 8 hard (sft m.length r.2.length) r.1) fun v => ob (mapB (shB m.length r.2.length) r.2) fun bs => some (v, m ++ bs)
theorem range_place {N k n : Nat} (h : n < k) : place N (List.range k) n = some (n + N) := by
  unfold place
  have : (List.range k).idxOf? n = some n := by
    rw [List.idxOf?_eq_some_iff]
    refine ⟨by simpa using h, by simp, fun j hj => ?_⟩
    simp
    omega
  rw [this]
  rfl
theorem sft_place {N k : Nat} : ∀ n n', sft N k n = some n' → place N (List.range k) n = some n' := by
  intro n n' h
  unfold sft at h
  split at h
  · rename_i hn; cases h; exact range_place hn
  · cases h
theorem fz_nameless {m : Mem} : ∀ (k : Nat) v v', fz k m v = some v' → RN inert (fun _ => none) v' v' := by
  intro k
  induction k with
  | zero => intro v v' h; cases h
  | succ k ih =>
    have arr : ∀ {vs ys : List Value}, mapO (fz k m) vs = some ys → ∀ (i : Nat) x y, ys.toArray[i]? = some x → ys.toArray[i]? = some y → RN inert (fun _ => none) x y := by
      intro vs
      induction vs with
      | nil => intro ys h; cases h; intro i x y hx; simp at hx
      | cons v vs ihv =>
        intro ys h
        obtain ⟨y0, h1, h2⟩ := ob_eq h
        obtain ⟨zs, h3, h4⟩ := ob_eq h2
        cases h4
        intro i x y hx hy
        rw [hx] at hy
        cases hy
        cases i with
        | zero => simp at hx; subst hx; exact ih _ _ h1
        | succ i => exact ihv h3 i x x (by simpa using hx) (by simpa using hx)
    intro v v' h
    unfold fz at h
    split at h
    · obtain ⟨xs, h1, h2⟩ := ob_eq h; cases h2
      exact .agg _ _ rfl (arr h1)
    · obtain ⟨xs, h1, h2⟩ := ob_eq h; cases h2
      exact .tuple _ _ rfl (arr h1)
    · cases h; exact .inert _ rfl
    · split at h
      · cases h; exact .inert _ rfl
      · split at h
        · split at h
          · obtain ⟨cs, h1, h2⟩ := ob_eq h
            obtain ⟨xs, h3, h4⟩ := ob_eq h2
            cases h4
            exact .inert _ rfl
          · cases h
        · cases h
    · split at h
      · split at h
        · obtain ⟨xs, h3, h4⟩ := ob_eq h
          cases h4
          exact .inert _ rfl
        · cases h
      · cases h
    · cases h; exact .inert _ rfl
    · split at h
      · cases h
        exact .func _ _ _ _ _ rfl (fun i x y hx => by simp at hx) rfl (fun i x y hx => by simp at hx)
      · cases h
    · cases h; exact .inert _ rfl
    · cases h; exact .inert _ rfl
    · cases h; exact .inert _ rfl
    · cases h; exact .inert _ rfl
    · cases h; exact .inert _ rfl
    · cases h
theorem fzL_low {m : Mem} {k N : Nat} : ∀ {vs ys : List Value}, mapO (fz k m) vs = some ys → RNL inert (low N) ys ys
  | [], ys, h => by cases h; exact .nil
  | v :: vs, ys, h => by
    obtain ⟨y0, h1, h2⟩ := ob_eq h
    obtain ⟨zs, h3, h4⟩ := ob_eq h2
    cases h4
    have h5 : RNL inert (low N) [y0] [y0] := RNL.sub (π := fun _ => none) (fun n n' h => by cases h) (.cons (fz_nameless _ _ _ h1) .nil)
    exact .cons (h5.2 0 y0 y0 rfl rfl) (fzL_low h3)
theorem fcall_ok {C : Cfg} (h0 : C.G = 0) {f : FuncId} {X : List Value → Mem → Option VM} (hX : OkX C f X) : OkC C f (fcall X) := by
  intro args m v m' h
  obtain ⟨as, h1, h2⟩ := ob_eq h
  obtain ⟨r, h3, h4⟩ := ob_eq h2
  obtain ⟨w, h5, h6⟩ := ob_eq h4
  obtain ⟨bs, h7, h8⟩ := ob_eq h6
  cases h8
  obtain ⟨ns, hfr⟩ := mapO_frz (fz_sound m 64) h1
  have hcon := hX as [] r.1 r.2 h3 .nil (fzL_low h1)
  have ht : m.take C.G = [] := by rw [h0]; rfl
  have hsub : ∀ {vs ys : List Value}, RNL hard (sft m.length r.2.length) vs ys → RNL hard (place m.length (List.range r.2.length)) vs ys := fun h => h.sub sft_place
  refine Con.own (by rw [ht]; exact hcon) hfr (by omega) (by rw [ht]; rfl) (List.range r.2.length) bs List.nodup_range ?_ ?_
  · obtain ⟨e1, e2⟩ := mapB_get h7
    have key : ∀ (l : Mem) (bl : List Blk) (i : Nat), bl.length = l.length → (∀ (j : Nat) b, l[j]? = some b → r.2[i + j]? = some b) → (∀ (j : Nat) b b', l[j]? = some b → bl[j]? = some b' → shB m.length r.2.length b = some b') → OwnL (place m.length (List.range r.2.length)) r.2 (List.range' i l.length) bl := by
      intro l
      induction l with
      | nil => intro bl i hl _ _; cases bl with
        | nil => exact trivial
        | cons _ _ => simp at hl
      | cons b l ihl =>
        intro bl i hl hg hf
        cases bl with
        | nil => simp at hl
        | cons c bl =>
          refine ⟨?_, ihl bl (i + 1) (by simpa using hl) (fun j b hj => by have := hg (j + 1) b (by simpa using hj); rwa [show i + (j + 1) = i + 1 + j by omega] at this) (fun j b b' h1 h2 => hf (j + 1) b b' (by simpa using h1) (by simpa using h2))⟩
          have hb := hg 0 b rfl
          have hs := hf 0 b c rfl rfl
          unfold shB at hs
          split at hs
          · rename_i hlo
            refine ⟨b, hb, hlo.1, hlo.2, ?_⟩
            split at hs
            · rename_i hh
              cases hs
              exact ⟨rfl, rfl, rfl, fun _ => .leaf hh⟩
            · obtain ⟨cs, q1, q2⟩ := ob_eq hs
              cases q2
              exact ⟨rfl, rfl, rfl, fun _ => hsub (rnL_sound q1)⟩
          · cases hs
    have := key r.2 bs 0 e1 (fun j b h => by rwa [Nat.zero_add]) (fun j b b' h1 h2 => e2 j b b' h1 h2)
    rwa [← List.range_eq_range'] at this
  · have : RNL hard (place m.length (List.range r.2.length)) [r.1] [v] := hsub (.cons (rnV_sound _ _ _ h5) .nil)
    exact this.2 0 _ _ rfl rfl
def setAll : Mem → List Nat → List Blk → Mem
  | m, n :: ns, b :: bs => setAll (m.set n b) ns bs
  | m, _, _ => m
theorem setAll_len : ∀ (m : Mem) (ns : List Nat) (bs : List Blk), (setAll m ns bs).length = m.length
  | m, [], bs => by simp [setAll]
  | m, n :: ns, [] => by simp [setAll]
  | m, n :: ns, b :: bs => by rw [setAll, setAll_len]; simp
theorem setAll_out : ∀ (m : Mem) (ns : List Nat) (bs : List Blk) (k : Nat), k ∉ ns → (setAll m ns bs)[k]? = m[k]?
  | m, [], bs, k, _ => by simp [setAll]
  | m, n :: ns, [], k, _ => by simp [setAll]
  | m, n :: ns, b :: bs, k, h => by
    rw [List.mem_cons] at h
    rw [setAll, setAll_out _ _ _ _ (fun e => h (.inr e)), List.getElem?_set_ne (fun e => h (.inl e.symm))]
theorem setAll_in : ∀ (m : Mem) (ns : List Nat) (bs : List Blk), ns.Nodup → (∀ n ∈ ns, n < m.length) → ∀ (i : Nat) n b, ns[i]? = some n → bs[i]? = some b → (setAll m ns bs)[n]? = some b
  | m, [], bs, _, _, i, n, b, h, _ => by simp at h
  | m, a :: ns, [], _, _, i, n, b, _, h => by simp at h
  | m, a :: ns, c :: bs, hn, hl, i, n, b, h1, h2 => by
    rw [List.nodup_cons] at hn
    cases i with
    | zero =>
      simp at h1 h2
      subst h1 h2
      rw [setAll, setAll_out _ _ _ _ hn.1, List.getElem?_set_self (hl _ (List.mem_cons_self ..))]
    | succ i =>
      simp at h1 h2
      rw [setAll]
      exact setAll_in _ ns bs hn.2 (fun x hx => by simpa using hl x (List.mem_cons_of_mem _ hx)) i n b h1 h2
theorem bk_more (acc : List Nat) (N a b : Nat) (ha : a = acc.length) : more (fun i => acc[i]?) a b N = fun n => if n < acc.length then acc[n]? else if n < b then some (N + (n - acc.length)) else none := by
  subst ha
  rfl
def bk (acc : List Nat) (N k : Nat) (n : Nat) : Option Nat := if n < acc.length then acc[n]? else if n < k then some (N + (n - acc.length)) else none
def bkB (π : Nat → Option Nat) (b : Blk) : Option Blk :=
  if b.cells.all inert = true then some b else if b.live = true then ob (mapO (rnV 8 inert π) b.cells) fun cs => some { b with cells := cs } else some { b with cells := [] }
theorem bkB_sb {π : Nat → Option Nat} {b b0 : Blk} (h : bkB π b = some b0) : SB inert π b b0 := by
  unfold bkB at h
  split at h
  · rename_i ha
    cases h
    exact ⟨rfl, rfl, rfl, fun _ => .leaf ha⟩
  · split at h
    · obtain ⟨cs, h1, h2⟩ := ob_eq h
      cases h2
      exact ⟨rfl, rfl, rfl, fun _ => rnL_sound h1⟩
    · rename_i hl
      cases h
      exact ⟨rfl, rfl, rfl, fun h => absurd h hl⟩
def rcall (X : List Value → Mem → Option VM) (args : List Value) (m : Mem) : Option VM :=
  ob (reachF 4194304 m (args.flatMap (nmV 8)) []) fun acc => ob (mapO (rnV 8 inert (ixOf acc)) args) fun as => ob (locM m acc acc) fun m0 => ob (X as m0) fun r =>
    if acc.length ≤ r.2.length then
      ob (rnV 8 inert (bk acc m.length r.2.length) r.1) fun v => ob (mapB (bkB (bk acc m.length r.2.length)) r.2) fun bs => some (v, setAll m acc (bs.take acc.length) ++ bs.drop acc.length)
    else none
theorem reach_real {m : Mem} {args : List Value} : ∀ {k : Nat} {todo acc res : List Nat}, reachF k m todo acc = some res → (∀ n ∈ todo, Real m args n) → (∀ n ∈ acc, Real m args n) → ∀ n ∈ res, Real m args n := by
  intro k
  induction k with
  | zero => intro todo acc res h; cases h
  | succ k ih =>
    intro todo acc res h ht ha
    cases todo with
    | nil => cases h; exact ha
    | cons n r =>
      have hn := ht n (List.mem_cons_self ..)
      have hr : ∀ x ∈ r, Real m args x := fun x hx => ht x (List.mem_cons_of_mem _ hx)
      simp only [reachF] at h
      split at h
      · exact ih h hr ha
      · split at h
        · rename_i b hb
          refine ih h (fun x hx => ?_) (fun x hx => ?_)
          · rw [List.mem_append] at hx
            rcases hx with hx | hx
            · exact hr x hx
            · unfold nmB at hx
              split at hx
              · cases hx
              · split at hx
                · rename_i hl
                  rw [List.mem_flatMap] at hx
                  obtain ⟨v, hv, hx⟩ := hx
                  obtain ⟨i, hi, rfl⟩ := List.getElem_of_mem hv
                  exact .cnm n b i _ x hn hb hl (List.getElem?_eq_getElem hi) hx
                · cases hx
          · simp only [List.mem_append, List.mem_singleton] at hx
            rcases hx with hx | rfl
            · exact ha x hx
            · exact hn
        · cases h
theorem RN.toLow {acc : List Nat} {v v0 : Value} (h : RN Ab.inert (ixOf acc) v v0) : RN Ab.inert (low acc.length) v0 v0 := by
  have lt : ∀ {n n'}, ixOf acc n = some n' → low acc.length n' = some n' := by
    intro n n' h
    have := (List.getElem?_eq_some_iff.1 (ixOf_some h)).1
    unfold low
    rw [if_pos this]
  induction h with
  | inert v hv => exact .inert v hv
  | ptr n n' o hn => exact .ptr n' n' o (lt hn)
  | sl n n' o len cap hn => exact .sl n' n' o len cap (lt hn)
  | func fn a a' b b' h1 _ h2 _ ih1 ih2 =>
    refine .func fn a' a' b' b' rfl (fun i x y hx hy => ?_) rfl (fun i x y hx hy => ?_)
    · rw [hx] at hy; cases hy
      have hi : i < a.size := by rw [h1]; exact (Array.getElem?_eq_some_iff.1 hx).1
      exact ih1 i _ x (Array.getElem?_eq_getElem hi) hx
    · rw [hx] at hy; cases hy
      have hi : i < b.size := by rw [h2]; exact (Array.getElem?_eq_some_iff.1 hx).1
      exact ih2 i _ x (Array.getElem?_eq_getElem hi) hx
  | agg a a' h1 _ ih =>
    refine .agg a' a' rfl (fun i x y hx hy => ?_)
    rw [hx] at hy; cases hy
    have hi : i < a.size := by rw [h1]; exact (Array.getElem?_eq_some_iff.1 hx).1
    exact ih i _ x (Array.getElem?_eq_getElem hi) hx
  | tuple a a' h1 _ ih =>
    refine .tuple a' a' rfl (fun i x y hx hy => ?_)
    rw [hx] at hy; cases hy
    have hi : i < a.size := by rw [h1]; exact (Array.getElem?_eq_some_iff.1 hx).1
    exact ih i _ x (Array.getElem?_eq_getElem hi) hx
theorem RNL.toLow {acc : List Nat} {vs v0 : List Value} (h : RNL inert (ixOf acc) vs v0) : RNL inert (low acc.length) v0 v0 := by
  refine ⟨rfl, fun i x y hx hy => ?_⟩
  rw [hx] at hy
  cases hy
  have hi : i < vs.length := by rw [h.1]; exact (List.getElem?_eq_some_iff.1 hx).1
  exact (h.2 i _ x (List.getElem?_eq_getElem hi) hx).toLow
theorem loc_closed {m m0 : Mem} {acc : List Nat} (h : locM m acc acc = some m0) : Closed m0 := by
  obtain ⟨e1, e2⟩ := locM_get h
  intro n b hn hl
  obtain ⟨x, c, q1, q2, q3⟩ := e2 n b hn
  rw [e1]
  unfold locB at q3
  split at q3
  · rename_i ha; cases q3; exact .leaf ha
  · split at q3
    · obtain ⟨cs, h1, h2⟩ := ob_eq q3
      cases h2
      exact (rnL_sound h1).toLow
    · rename_i hl'; cases q3; exact absurd hl hl'
theorem rcall_ok {C : Cfg} (h0 : C.G = 0) {f : FuncId} {X : List Value → Mem → Option VM} (hX : OkX C f X) : OkC C f (rcall X) := by
  intro args m v m' h
  obtain ⟨acc, h1, h2⟩ := ob_eq h
  obtain ⟨as, h3, h4⟩ := ob_eq h2
  obtain ⟨m0, h5, h6⟩ := ob_eq h4
  obtain ⟨r, h7, h8⟩ := ob_eq h6
  split at h8
  · rename_i hlen
    obtain ⟨w, h9, h10⟩ := ob_eq h8
    obtain ⟨bs, h11, h12⟩ := ob_eq h10
    cases h12
    obtain ⟨hnd, hlt⟩ := reach_ok h1 List.nodup_nil (fun n hn => by cases hn)
    have S := loc_sim hnd h5
    have hl0 : m0.length = acc.length := (locM_get h5).1
    have hcon := hX as m0 r.1 r.2 h7 (loc_closed h5) (by rw [hl0]; exact (rnL_sound h3).toLow)
    obtain ⟨e1, e2⟩ := mapB_get h11
    have hmore : more (fun i => acc[i]?) m0.length r.2.length m.length = bk acc m.length r.2.length := by
      rw [bk_more _ _ _ _ hl0]
      rfl
    have hreal := reach_real (args := args) h1 (fun n hn => by
      rw [List.mem_flatMap] at hn
      obtain ⟨x, hx, hn⟩ := hn
      obtain ⟨i, hi, rfl⟩ := List.getElem_of_mem hx
      exact .nm i _ n (List.getElem?_eq_getElem hi) hn) (fun n hn => by cases hn)
    refine Con.frame hcon S (fun g hg => by omega) ((rnL_sound h3).symm (ixOf_inv acc)) ?_ ?_ ?_ ?_ ?_
    · simp only [List.length_append, setAll_len, List.length_drop]
      omega
    · intro n hn hk
      rw [List.getElem?_append_left (by rw [setAll_len]; exact hn)]
      refine setAll_out _ _ _ _ (fun hm => ?_)
      obtain ⟨i, hi, e⟩ := List.getElem_of_mem hm
      exact hk i (by rw [List.getElem?_eq_getElem hi, e])
    · intro n n' b0 hb hm
      rw [hmore] at hm ⊢
      have hn : n < bs.length := by rw [e1]; exact (List.getElem?_eq_some_iff.1 hb).1
      have hs := bkB_sb (e2 n b0 _ hb (List.getElem?_eq_getElem hn))
      refine ⟨bs[n], ?_, hs⟩
      unfold bk at hm
      split at hm
      · rename_i hna
        rw [List.getElem?_append_left (by rw [setAll_len]; exact hlt n' (List.mem_of_getElem? hm))]
        refine setAll_in _ _ _ hnd hlt n n' _ hm ?_
        rw [List.getElem?_take, if_pos hna, List.getElem?_eq_getElem hn]
      · split at hm
        · cases hm
          rw [List.getElem?_append_right (by rw [setAll_len]; omega), setAll_len, List.getElem?_drop, show acc.length + (m.length + (n - acc.length) - m.length) = n by omega, List.getElem?_eq_getElem hn]
        · cases hm
    · rw [hmore]; exact rnV_sound _ _ _ h9
    · intro k n hk
      exact .inr (hreal n (List.mem_of_getElem? hk))
  · cases h8
end
end Go.Ab
namespace Go.Ab
def QQ : Nat := 1099511627776
def cfn : CallF := fun _ _ _ => none
def cfc (g : FuncId) (X : List Value → Mem → Option VM) (rest : CallF) : CallF := fun f => cond (Nat.beq f g) X (rest f)
theorem cfn_ok {C : Cfg} : CallOK C cfn := fun f args m v m' h => by cases h
theorem cfc_ok {C : Cfg} {g : FuncId} {X : List Value → Mem → Option VM} {rest : CallF} (h : OkC C g X) (hr : CallOK C rest) : CallOK C (cfc g X rest) := by
  intro f args m v m' e
  unfold cfc at e
  cases hb : Nat.beq f g with
  | true =>
    rw [hb] at e
    have : f = g := Nat.eq_of_beq_eq_true hb
    subst this
    exact h args m v m' e
  | false =>
    rw [hb] at e
    exact hr f args m v m' e
theorem noLoops {C : Cfg} {k : Nat} {fn : Func} {LL : List (Nat × List Tmp)} {J : Nat → List Value → Mem → Option VM} {c : Code} (h : heads c [] = []) : ∀ h ∈ heads c [], GoodL C k fn LL J h := by
  intro x hx
  rw [h] at hx
  cases hx
theorem allLoops {C : Cfg} {k : Nat} {fn : Func} {LL : List (Nat × List Tmp)} {J : Nat → List Value → Mem → Option VM} {c : Code} {n : Nat} (hb : fn.body = some c) (hn : (heads c []).length = n) (h : ∀ i, i < n → GoodL C k fn LL J (atLoop fn i)) : ∀ h ∈ heads c [], GoodL C k fn LL J h := by
  intro x hx
  obtain ⟨i, hi, rfl⟩ := List.getElem_of_mem hx
  have := h i (by omega)
  unfold atLoop at this
  rw [hb] at this
  simp only [List.getD_eq_getElem?_getD, List.getElem?_eq_getElem hi, Option.getD_some] at this
  exact this
theorem goodL_zero {C : Cfg} {k : Nat} {fn : Func} {LL : List (Nat × List Tmp)} {J : Nat → List Value → Mem → Option VM} {h : List Item} {l : Nat} (hl : labI h = l) (hz : ∀ vs m, J l vs m = none) : GoodL C k fn LL J h := by
  intro live vs m r _ _ _ e
  rw [hl, hz] at e
  cases e
theorem goodL_succ {C : Cfg} {cf : CallF} {k np n i l : Nat} {fn : Func} {LL : List (Nat × List Tmp)} {J J1 : Nat → List Value → Mem → Option VM} {live : List Tmp} (hC : CfgOK C) (h0 : C.G = 0) (hcf : CallOK C cf) {c : Code} (hb : fn.body = some c) (hok : codeOk C fn c = true)
    (hn : (heads c []).length = n) (ih : ∀ i, i < n → GoodL C k fn LL J (atLoop fn i)) (hl : labI (atLoop fn i) = l) (hlive : LL.lookup l = some live)
    (hX : ∀ vs m r, vs.length = live.length → J1 l vs m = some r → ex C cf fn np k LL J 400 (atLoop fn i) (live.zip vs) m = some r) : GoodL C k fn LL J1 (atLoop fn i) := by
  intro live' vs m r h1 h2 h3 h4
  rw [hl] at h1 h4
  rw [hlive] at h1
  cases h1
  refine ex_sound hC h0 hcf (allLoops hb hn ih) 400 _ _ _ _ (hX vs m r h2 h4) h3 (atLoop_ok hb hok i) ?_
  intro x hx
  unfold atLoop at hx
  rw [hb] at hx
  simp only [List.getD_eq_getElem?_getD] at hx
  cases hg : (heads c [])[i]? with
  | none => rw [hg] at hx; simp [headsI] at hx
  | some q =>
    rw [hg] at hx
    simp only [Option.getD_some] at hx
    rcases heads_sub c [] q (List.mem_of_getElem? hg) x hx with h | h
    · exact h
    · simp [headsI] at h
def scal : Value → Bool
  | .bool _ | .int _ _ | .string _ | .iface _ _ => true
  | _ => false
def scal2 : Value → Bool
  | .agg cs => cs.toList.all scal
  | v => scal v
noncomputable def icall (X : List Value → Mem → Option VM) (args : List Value) (m : Mem) : Option VM :=
  if args.all scal2 = true then ob (X args []) fun r => ob (fz 64 r.2 r.1) fun v => some (v, m) else none
end Go.Ab
