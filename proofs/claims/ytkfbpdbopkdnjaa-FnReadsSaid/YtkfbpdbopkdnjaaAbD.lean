/- Part of an own evaluator of Go code on numbered blocks, and of the proof that the machine does what it says; each theorem carries its own conditions. -/
import Derived.Test.YtkfbpdbopkdnjaaAbC
import Derived.ChangeArms
import Derived.DataReads
import Derived.WideShapes
import Derived.Below
import Derived.Carry
import Derived.ChangeShapes
import Derived.OpenShut
import Derived.Laws.Strings
import Derived.Laws.StructEq
set_option linter.unusedVariables false
set_option linter.unusedSimpArgs false
namespace Go.Ab

/-! ## A region, its guarded operations as if they went -/

/-- The value of a temporary, if its guard lets it be made. -/
structure Tn where
  t : Tmp
  key : Nat × Bool
  v : Value

def guardT (ops : List Oper) (j : Nat) : Option Tmp :=
  match ops[j]? with
  | some g => g.dst
  | none => none

def wantK (ops : List Oper) (T : Tm) (key : Nat × Bool) : Option Bool :=
  match guardT ops key.1 with
  | some t => match T.lookup t with
    | some (.bool b) => some (b == key.2)
    | some (.tuple _) => some false
    | _ => none
  | none => none

theorem wantedA_key {ops : List Oper} {T : Tm} {o : Oper} {key : Nat × Bool} (h : o.guard = some key) : wantedA ops T o = wantK ops T key := by
  unfold wantedA wantK guardT
  rw [h]
  obtain ⟨j, want⟩ := key
  simp only
  cases ops[j]? with
  | none => rfl
  | some g =>
    simp only
    cases g.dst <;> rfl

/-- Whether it goes, and what else went then. -/
def keyVal (ops : List Oper) (T : Tm) (S : List Tn) : Nat → Nat × Bool → Option (Bool × List (Nat × Bool))
  | 0, _ => none
  | k + 1, (j, want) => match guardT ops j with
    | none => none
    | some tg => match T.lookup tg with
      | some (.bool b) => some (b == want, [(j, want)])
      | some _ => none
      | none => match S.find? (fun e => e.t == tg) with
        | some ⟨_, key', .bool b⟩ => match keyVal ops T S k key' with
          | some (c, ks) => some (c && (b == want), (j, want) :: ks)
          | none => none
        | _ => none

def envOf (S : List Tn) (ok : Nat × Bool → Bool) (T : Tm) : Tm := (S.filter (fun e => ok e.key)).map (fun e => (e.t, e.v)) ++ T

structure Taint (ops : List Oper) (Te T : Tm) (S : List Tn) : Prop where
  sub : Sub T Te
  val : ∀ e ∈ S, ∃ b, wantK ops Te e.key = some b ∧ (b = true → Te.lookup e.t = some e.v) ∧ (b = false → Te.lookup e.t = some (.tuple #[]))

theorem keyVal_sound {ops : List Oper} {Te T : Tm} {S : List Tn} (I : Taint ops Te T S) : ∀ (k : Nat) (key : Nat × Bool) (c : Bool) (ks : List (Nat × Bool)), keyVal ops T S k key = some (c, ks) →
    wantK ops Te key = some c ∧ (c = true → ∀ k' ∈ ks, wantK ops Te k' = some true) := by
  intro k
  induction k with
  | zero => intro key c ks h; simp [keyVal] at h
  | succ k ih =>
    intro key c ks h
    obtain ⟨j, want⟩ := key
    unfold keyVal at h
    split at h
    · cases h
    · rename_i tg hg
      split at h
      · rename_i b hb
        cases h
        have : wantK ops Te (j, want) = some (b == want) := by
          unfold wantK
          simp only [hg, I.sub _ _ hb]
        refine ⟨this, fun hc k' hk => ?_⟩
        simp only [List.mem_singleton] at hk
        subst hk
        rw [this, hc]
      · cases h
      · split at h
        · rename_i t1 key' b hf
          split at h
          · rename_i c1 ks1 hk1
            cases h
            have hm := List.mem_of_find?_eq_some hf
            have ht : t1 = tg := by simpa using List.find?_some hf
            subst ht
            obtain ⟨h1, h2⟩ := ih _ _ _ hk1
            obtain ⟨b', e1, e2, e3⟩ := I.val _ hm
            simp only at e1 e2 e3
            rw [h1] at e1
            cases e1
            have : wantK ops Te (j, want) = some (c1 && (b == want)) := by
              unfold wantK
              simp only [hg]
              cases c1 with
              | true => rw [e2 rfl]; simp
              | false => rw [e3 rfl]; simp
            refine ⟨this, fun hc k' hk => ?_⟩
            rw [List.mem_cons] at hk
            rcases hk with rfl | hk
            · rw [this, hc]
            · simp only [Bool.and_eq_true] at hc
              exact h2 hc.1 k' hk
          · cases h
        · cases h

theorem env_sub {ops : List Oper} {Te T : Tm} {S : List Tn} (I : Taint ops Te T S) {ok : Nat × Bool → Bool} (hok : ∀ e ∈ S, ok e.key = true → wantK ops Te e.key = some true) : Sub (envOf S ok T) Te := by
  intro t v h
  unfold envOf at h
  rw [List.lookup_append] at h
  cases h1 : List.lookup t ((S.filter fun e => ok e.key).map fun e => (e.t, e.v)) with
  | none =>
    rw [h1] at h
    exact I.sub t v (by simpa using h)
  | some u =>
    rw [h1] at h
    simp only [Option.some_or, Option.some.injEq] at h
    subst h
    have hm : (t, u) ∈ (S.filter fun e => ok e.key).map fun e => (e.t, e.v) := by
      revert h1
      generalize ((S.filter fun e => ok e.key).map fun e => (e.t, e.v)) = l
      intro h1
      induction l with
      | nil => simp at h1
      | cons p l ih =>
        obtain ⟨a, b⟩ := p
        rw [List.lookup_cons] at h1
        split at h1
        · rename_i e
          have e : t = a := by simpa using e
          subst e
          cases h1
          exact List.mem_cons_self ..
        · exact List.mem_cons_of_mem _ (ih h1)
    simp only [List.mem_map, List.mem_filter] at hm
    obtain ⟨e, ⟨h2, h3⟩, h4⟩ := hm
    cases h4
    obtain ⟨b, e1, e2, _⟩ := I.val e h2
    rw [hok e h2 h3] at e1
    cases e1
    exact e2 rfl

section
variable (C : Cfg) (K : Spec) (K3 : Spec3) (O : List FuncId) (ops : List Oper)

/-- One operation where these guards let go. -/
def sOne (T : Tm) (S : List Tn) (ks : List (Nat × Bool)) (m : Mem) (o : Oper) : Option (List Prop × Value × Mem × Option Nat × Bool) :=
  match o.op with
  | .pick (.tmp tc) a b => match (envOf S ks.contains T).lookup tc with
    | some (.bool bc) => match ev C (envOf S (fun k => ks.contains k || (k.2 && guardT ops k.1 == some tc)) T) a, ev C (envOf S (fun k => ks.contains k || (!k.2 && guardT ops k.1 == some tc)) T) b with
      | some (.bool x), some (.bool y) => some ([], .bool (bif bc then x else y), m, none, false)
      | _, _ => none
    | _ => none
  | _ => sOp C K K3 O (envOf S ks.contains T) m o

def addS (S : List Tn) (d : Option Tmp) (key : Nat × Bool) (v : Value) : List Tn :=
  match d with
  | some t => ⟨t, key, v⟩ :: S
  | none => S
def okD (S : List Tn) (d : Option Tmp) : Bool := d.isNone || S.all fun e => guardT ops e.key.1 != d && some e.t != d
def newT (T : Tm) (d : Option Tmp) : Bool :=
  match d with
  | some t => (T.lookup t).isNone
  | none => true

def under (c : Bool) : List Prop → List Prop
  | [] => []
  | ps => [c = true → AllP ps]

/-- A value under a plainer name. -/
def plain (D : List (Tmp × Value)) (d : Option Tmp) (v : Value) : List Prop × Value :=
  match d with
  | some t => match D.lookup t with
    | some w => ([v = w], w)
    | none => ([], v)
  | none => ([], v)

theorem plain_sound {D : List (Tmp × Value)} {d : Option Tmp} {v : Value} (h : AllP (plain D d v).1) : (plain D d v).2 = v := by
  unfold plain at h ⊢
  cases d with
  | none => rfl
  | some t =>
    simp only at h ⊢
    cases hD : D.lookup t with
    | none => rfl
    | some w =>
      rw [hD] at h
      exact (AllP.singl h).symm

variable (D : List (Tmp × Value))

def sStep (T : Tm) (S : List Tn) (m : Mem) (o : Oper) : Option (List Prop × Tm × List Tn × Mem × Option Nat × Bool × Bool) :=
  if okD ops S o.dst = true then
    match o.guard with
    | none => match sOne C K K3 O ops T S [] m o with
      | some (ps, v, m', n, ch) => match plain D o.dst v with
        | (qs, w) => some (ps ++ qs, putD T o.dst w, S, m', n, ch, false)
      | none => none
    | some key => match keyVal ops T S 8 key with
      | some (c, ks) => match sOne C K K3 O ops T S ks m o with
        | some (ps, v, _, n, ch) => if ch = false ∧ cls C o ≠ .alloc ∧ (newT T o.dst && (o.dst.isNone || guardT ops key.1 != o.dst)) = true then (match plain D o.dst v with
          | (qs, w) => some (under c (ps ++ qs), T, addS S o.dst key w, m, n, false, true)) else none
        | none => none
      | none => none
  else none

def sOps : List Oper → Tm → List Tn → Mem → Option (List Prop × Tm × Mem × List Ev × Bool × Bool)
  | [], T, _, m => some ([], T, m, [], false, false)
  | o :: os, T, S, m => match sStep C K K3 O ops D T S m o with
    | none => none
    | some (p, T1, S1, m1, n, ch, ta) => match sOps os T1 S1 m1 with
      | none => none
      | some (q, T2, m2, E, ch2, ta2) => some (p ++ q, T2, m2, ⟨m, m1, n⟩ :: E, ch || ch2, ta || ta2)
end

section
variable {C : Cfg} {K : Spec} {K3 : Spec3} {O : List FuncId} {ops : List Oper} {D : List (Tmp × Value)} {Te T : Tm} {S : List Tn} {m : Mem}

theorem sOne_sound (I : Taint ops Te T S) {ks : List (Nat × Bool)} (hks : ∀ k ∈ ks, wantK ops Te k = some true) {o : Oper} {ps : List Prop} {v : Value} {m' : Mem} {n : Option Nat} {ch : Bool}
    (h : sOne C K K3 O ops T S ks m o = some (ps, v, m', n, ch)) (hp : AllP ps) : aOp C (callK K K3 O) Te m o = some (v, m', n) ∧ (ch = false → cls C o ≠ .alloc → m' = m) := by
  have base : ∀ k, ks.contains k = true → wantK ops Te k = some true := fun k hk => hks k (by simpa using hk)
  unfold sOne at h
  split at h
  · rename_i tc a b ho
    split at h
    · rename_i bc hbc
      split at h
      · rename_i x y ha hb
        cases h
        have hc := env_sub I (ok := ks.contains) (fun e _ h => base _ h) _ _ hbc
        have wk : ∀ k : Nat × Bool, guardT ops k.1 = some tc → wantK ops Te k = some (bc == k.2) := by
          intro k hk
          unfold wantK
          rw [hk]
          simp only [hc]
        have : aOp C (callK K K3 O) Te m o = some (.bool (bif bc then x else y), m, none) := by
          have hcl : cls C o = .pure := by unfold cls; rw [ho]
          have hec : ev C Te (.tmp tc) = some (.bool bc) := hc
          unfold aOp
          rw [hcl]
          simp only [pv, ho, hec]
          cases bc with
          | true =>
            have := ev_mono (env_sub I (ok := fun k => ks.contains k || (k.2 && guardT ops k.1 == some tc)) (fun e _ h => by
              simp only [Bool.or_eq_true, Bool.and_eq_true, beq_iff_eq] at h
              rcases h with h | ⟨h1, h2⟩
              · exact base _ h
              · rw [wk _ h2, h1]; rfl)) ha
            simp only [this]
            rfl
          | false =>
            have := ev_mono (env_sub I (ok := fun k => ks.contains k || (!k.2 && guardT ops k.1 == some tc)) (fun e _ h => by
              simp only [Bool.or_eq_true, Bool.and_eq_true, beq_iff_eq, Bool.not_eq_true'] at h
              rcases h with h | ⟨h1, h2⟩
              · exact base _ h
              · rw [wk _ h2, h1]; rfl)) hb
            simp only [this]
            rfl
        exact ⟨this, fun _ _ => rfl⟩
      · cases h
    · cases h
  · obtain ⟨h1, h2⟩ := sOp_sound h hp
    exact ⟨aOp_mono (env_sub I (ok := ks.contains) (fun e _ h => base _ h)) h1, h2⟩

theorem lookup_put {T : Tm} {d : Option Tmp} {v : Value} {t : Tmp} (h : d ≠ some t) : (putD T d v).lookup t = T.lookup t := by
  cases d with
  | none => rfl
  | some d =>
    simp only [putD, List.lookup_cons]
    have : (t == d) = false := by
      simp only [beq_eq_false_iff_ne, ne_eq]
      rintro rfl
      exact h rfl
    rw [this]

theorem wantK_put {T : Tm} {d : Option Tmp} {v : Value} {key : Nat × Bool} (h : d = none ∨ guardT ops key.1 ≠ d) : wantK ops (putD T d v) key = wantK ops T key := by
  unfold wantK
  cases hg : guardT ops key.1 with
  | none => rfl
  | some t =>
    simp only
    rw [lookup_put]
    rcases h with h | h
    · rw [h]; simp
    · rw [hg] at h
      exact fun e => h e.symm

theorem okD_key {d : Option Tmp} (h : okD ops S d = true) {e : Tn} (he : e ∈ S) : (d = none ∨ guardT ops e.key.1 ≠ d) ∧ d ≠ some e.t := by
  unfold okD at h
  simp only [Bool.or_eq_true, Option.isNone_iff_eq_none, List.all_eq_true, Bool.and_eq_true, bne_iff_ne, ne_eq] at h
  rcases h with h | h
  · exact ⟨.inl h, by rw [h]; simp⟩
  · exact ⟨.inr (h e he).1, fun g => (h e he).2 g.symm⟩

theorem new_sub {T Te : Tm} {d : Option Tmp} {v : Value} (hn : newT T d = true) (h : Sub T Te) : Sub T (putD Te d v) := by
  intro t u hu
  rw [lookup_put]
  · exact h t u hu
  · rintro rfl
    simp only [newT, hu] at hn
    cases hn

theorem Taint.keep (I : Taint ops Te T S) {d : Option Tmp} (hd : okD ops S d = true) {v : Value} {e : Tn} (he : e ∈ S) :
    ∃ b, wantK ops (putD Te d v) e.key = some b ∧ (b = true → (putD Te d v).lookup e.t = some e.v) ∧ (b = false → (putD Te d v).lookup e.t = some (.tuple #[])) := by
  obtain ⟨b, e1, e2, e3⟩ := I.val e he
  have h2 := okD_key hd he
  refine ⟨b, by rw [wantK_put h2.1]; exact e1, ?_, ?_⟩
  · rw [lookup_put h2.2]; exact e2
  · rw [lookup_put h2.2]; exact e3

theorem under_true {c : Bool} {ps : List Prop} (h : AllP (under c ps)) (hc : c = true) : AllP ps := by
  cases ps with
  | nil => exact trivial
  | cons p ps => exact h.singl hc

theorem sStep_sound (I : Taint ops Te T S) {o : Oper} {ps : List Prop} {T1 : Tm} {S1 : List Tn} {m1 : Mem} {n : Option Nat} {ch ta : Bool} (h : sStep C K K3 O ops D T S m o = some (ps, T1, S1, m1, n, ch, ta)) (hp : AllP ps) :
    ∃ Te1 n1, aStep C (callK K K3 O) ops Te m o = some (Te1, m1, n1) ∧ Taint ops Te1 T1 S1 ∧ (ch = false → cls C o ≠ .alloc → m1 = m) ∧ (ta = false → n1 = n) := by
  unfold sStep at h
  split at h
  · rename_i hok
    split at h
    · rename_i hg
      split at h
      · rename_i ps0 v m' n' ch' hs
        have hpl := plain_sound (D := D) (d := o.dst) (v := v)
        generalize plain D o.dst v = pl at h hpl
        obtain ⟨qs, u⟩ := pl
        cases h
        have hpq := hp.append
        have hpl : u = v := hpl hpq.2
        subst hpl
        obtain ⟨h1, h2⟩ := sOne_sound I (ks := []) (fun k hk => by cases hk) hs hpq.1
        refine ⟨putD Te o.dst u, n, ?_, ⟨I.sub.put, fun e he => I.keep hok he⟩, h2, fun _ => rfl⟩
        unfold aStep wantedA
        simp only [hg, h1]
      · cases h
    · rename_i key hg
      split at h
      · rename_i c ks hk
        split at h
        · rename_i ps0 v m' n' ch' hs
          split at h
          · rename_i hc
            have hpl := plain_sound (D := D) (d := o.dst) (v := v)
            generalize plain D o.dst v = pl at h hpl
            obtain ⟨qs, u⟩ := pl
            cases h
            obtain ⟨k1, k2⟩ := keyVal_sound I _ _ _ _ hk
            have hw : wantedA ops Te o = some c := by rw [wantedA_key hg]; exact k1
            have hkey : newT T o.dst = true ∧ (o.dst = none ∨ guardT ops key.1 ≠ o.dst) := by
              have := hc.2.2
              simp only [Bool.and_eq_true, Bool.or_eq_true, Option.isNone_iff_eq_none, bne_iff_ne, ne_eq] at this
              exact this
            -- what is kept of the taints
            have taint : ∀ x, (c = true → x = u) → (c = false → x = .tuple #[]) → Taint ops (putD Te o.dst x) T (addS S o.dst key u) := by
              intro x hx hx'
              refine ⟨new_sub hkey.1 I.sub, fun e he => ?_⟩
              unfold addS at he
              cases hd : o.dst with
              | none =>
                rw [hd] at he
                exact I.val e he
              | some t =>
                rw [hd] at he hok
                simp only [List.mem_cons] at he
                rcases he with rfl | he
                · refine ⟨c, ?_, ?_, ?_⟩
                  · rw [wantK_put (by rw [hd] at hkey; exact hkey.2)]; exact k1
                  · intro h; simp [putD, hx h]
                  · intro h; simp [putD, hx' h]
                · exact I.keep hok he
            cases c with
            | false =>
              refine ⟨putD Te o.dst (.tuple #[]), none, ?_, taint _ (fun h => by cases h) (fun _ => rfl), fun _ _ => rfl, fun h => by cases h⟩
              unfold aStep
              simp only [hw]
            | true =>
              have hpq := (under_true hp rfl).append
              have hpl : u = v := hpl hpq.2
              subst hpl
              obtain ⟨h1, h2⟩ := sOne_sound I (k2 rfl) hs hpq.1
              have hm := h2 hc.1 hc.2.1
              subst hm
              refine ⟨putD Te o.dst u, n, ?_, taint _ (fun _ => rfl) (fun h => by cases h), fun _ _ => rfl, fun h => by cases h⟩
              unfold aStep
              simp only [hw, h1]
          · cases h
        · cases h
      · cases h
  · cases h

theorem sOps_sound : ∀ {os : List Oper} {Te T : Tm} {S : List Tn} {m : Mem} (_ : Taint ops Te T S) {ps : List Prop} {T' : Tm} {m' : Mem} {E : List Ev} {ch ta : Bool}, sOps C K K3 O ops D os T S m = some (ps, T', m', E, ch, ta) → AllP ps →
    ∃ E' Te', aOps C (callK K K3 O) ops os Te m = some (E', Te', m') ∧ Sub T' Te' ∧ (ch = false → ∀ (i : Nat) o e, os[i]? = some o → E'[i]? = some e → cls C o = .eff → e.after = e.before) ∧ (ta = false → E' = E)
  | [], Te, T, S, m, I, ps, T', m', E, ch, ta, h, _ => by
    simp only [sOps] at h
    cases h
    exact ⟨[], Te, rfl, I.sub, fun _ i o e h => by simp at h, fun _ => rfl⟩
  | o :: os, Te, T, S, m, I, ps, T', m', E, ch, ta, h, hp => by
    simp only [sOps] at h
    split at h
    · cases h
    · rename_i p T1 S1 m1 n ch1 ta1 hs
      split at h
      · cases h
      · rename_i q T2 m2 E2 ch2 ta2 hr
        cases h
        have hpq := hp.append
        obtain ⟨Te1, n1, a1, a2, a3, a4⟩ := sStep_sound I hs hpq.1
        obtain ⟨E', Te', b1, b2, b3, b4⟩ := sOps_sound a2 hr hpq.2
        refine ⟨⟨m, m1, n1⟩ :: E', Te', by simp only [aOps, a1, b1], b2, fun hch i o' e h1 h2 h3 => ?_, fun hta => ?_⟩
        · simp only [Bool.or_eq_false_iff] at hch
          cases i with
          | zero =>
            simp only [List.getElem?_cons_zero, Option.some.injEq] at h1 h2
            subst h1 h2
            exact a3 hch.1 (by rw [h3]; simp)
          | succ i =>
            simp only [List.getElem?_cons_succ] at h1 h2
            exact b3 hch.2 i o' e h1 h2 h3
        · simp only [Bool.or_eq_false_iff] at hta
          rw [b4 hta.2, a4 hta.1]

theorem pairs_eff {p : Nat × Nat} (h : p ∈ pairsOf C ops) : ∃ o, ops[p.2]? = some o ∧ cls C o = .eff := by
  unfold pairsOf at h
  simp only [List.mem_flatMap] at h
  obtain ⟨⟨i, oi⟩, hi, hp⟩ := h
  simp only at hp
  split at hp
  · simp only [List.mem_filterMap] at hp
    obtain ⟨⟨j, oj⟩, hj, hpj⟩ := hp
    have key : cls C oj = .eff ∧ (i, j) = p := by
      revert hpj
      simp only
      intro hpj
      by_cases hc : cls C oj = .eff
      · refine ⟨hc, ?_⟩
        split at hpj <;> simp_all
      · simp [hc] at hpj
    obtain ⟨hc, rfl⟩ := key
    refine ⟨oj, ?_, hc⟩
    unfold numbered at hj
    obtain ⟨k, hk, e⟩ := List.getElem_of_mem hj
    simp only [List.getElem_zip, List.getElem_range, Prod.mk.injEq] at e
    obtain ⟨rfl, rfl⟩ := e
    rw [List.getElem?_eq_getElem]
  · cases hp

/-- The region's static side. -/
def regOk (C : Cfg) (N : Nat) (ops : List Oper) (draw : Bool) : Bool := ops.all (fun o => o.dst.all (· < N)) && (!draw || drawOk C ops)

/-- What has to be seen to beyond the operations. -/
def calm (C : Cfg) (ops : List Oper) (E : List Ev) (draw ch ta : Bool) : Option (List Prop) :=
  match draw && ch with
  | false => some []
  | true => match ta with
    | false => some [Stable C ops E]
    | true => none

theorem RunF.region (hC : CfgOK C) (h0 : C.G = 0) (hK : SpecOK C K) (hK3 : Spec3OK C K3) {fn : Func} {id : Nat} {opsA : Array Oper} {draw : Bool} {r : List Item} {T T' : Tm} {m m' : Mem} {v : Value} {ps qs : List Prop} {E : List Ev} {ch ta : Bool}
    (hreg : regOk C fn.ntmps opsA.toList draw = true) (hs : sOps C K K3 O opsA.toList D opsA.toList T [] m = some (ps, T', m', E, ch, ta)) (hq : calm C opsA.toList E draw ch ta = some qs) (hp : AllP ps) (hp' : AllP qs)
    (h : RunF C fn r T' m' v) : RunF C fn (.code (.region id opsA draw) :: r) T m v := by
  obtain ⟨v0, m2, ns, h1, h2⟩ := h
  obtain ⟨E', Te', a1, a2, a3, a4⟩ := sOps_sound (Te := T) ⟨Sub.refl T, fun e he => by cases he⟩ hs hp
  refine ⟨v0, m2, ns, ?_, h2⟩
  unfold regOk at hreg
  simp only [Bool.and_eq_true, Bool.or_eq_true, Bool.not_eq_true'] at hreg
  refine Run.region hC (callK_ok (O := O) h0 hK hK3) (T1 := Te') (m1 := m') ?_ (h1.mono a2)
  unfold aRegion
  rw [if_pos hreg.1, a1]
  simp only
  cases draw with
  | false => rfl
  | true =>
    have hd : drawOk C opsA.toList = true := by simpa using hreg.2
    rw [if_pos rfl, if_pos]
    refine ⟨hd, ?_⟩
    cases ch with
    | true =>
      cases ta with
      | true => cases hq
      | false =>
        simp only [calm, Bool.true_and] at hq
        cases hq
        rw [a4 rfl]
        exact hp'.singl
    | false =>
      intro p hp
      obtain ⟨o, ho, he⟩ := pairs_eff hp
      unfold stab
      cases hE1 : E'[p.1]? with
      | none => trivial
      | some a =>
        cases hE2 : E'[p.2]? with
        | none => trivial
        | some b =>
          simp only
          cases a.name with
          | none => trivial
          | some n =>
            simp only
            rw [a3 rfl p.2 o b ho hE2 he]
end
end Go.Ab

namespace Go.Ab

/-! ## A whole function, up to its loops -/

def vzip (f : Value → Value → Option Value) : List Value → List Value → Option (List Value)
  | [], [] => some []
  | x :: xs, y :: ys => match f x y with
    | none => none
    | some z => match vzip f xs ys with
      | none => none
      | some zs => some (z :: zs)
  | _, _ => none

/-- One value or the other. -/
def vcond (b : Bool) : Nat → Value → Value → Option Value
  | 0, _, _ => none
  | k + 1, v, w => match v, w with
    | .bool x, .bool y => some (.bool (bif b then x else y))
    | .int p x, .int q y => if p = q then some (.int p (bif b then x else y)) else none
    | .string x, .string y => some (.string (bif b then x else y))
    | .agg xs, .agg ys => match vzip (vcond b k) xs.toList ys.toList with
      | some zs => some (.agg zs.toArray)
      | none => none
    | .tuple xs, .tuple ys => match vzip (vcond b k) xs.toList ys.toList with
      | some zs => some (.tuple zs.toArray)
      | none => none
    | .iface n (.agg xs), .iface n' (.agg ys) => some (.iface (bif b then n else n') (.agg (bif b then xs else ys)))
    | .iface n (.tuple xs), .iface n' (.tuple ys) => some (.iface (bif b then n else n') (.tuple (bif b then xs else ys)))
    | .pointer none, .pointer none => some (.pointer none)
    | .nilFunc, .nilFunc => some .nilFunc
    | _, _ => none

theorem vzip_fst {f : Value → Value → Option Value} : ∀ {xs ys zs : List Value}, (∀ x y z, f x y = some z → z = x) → vzip f xs ys = some zs → zs = xs
  | [], [], zs, _, h => by simp only [vzip] at h; cases h; rfl
  | x :: xs, y :: ys, zs, hf, h => by
    simp only [vzip] at h
    split at h
    · cases h
    · rename_i z hz
      split at h
      · cases h
      · rename_i zs' hzs
        cases h
        rw [hf x y z hz, vzip_fst hf hzs]
  | [], _ :: _, zs, _, h => by simp [vzip] at h
  | _ :: _, [], zs, _, h => by simp [vzip] at h

theorem vzip_snd {f : Value → Value → Option Value} : ∀ {xs ys zs : List Value}, (∀ x y z, f x y = some z → z = y) → vzip f xs ys = some zs → zs = ys
  | [], [], zs, _, h => by simp only [vzip] at h; cases h; rfl
  | x :: xs, y :: ys, zs, hf, h => by
    simp only [vzip] at h
    split at h
    · cases h
    · rename_i z hz
      split at h
      · cases h
      · rename_i zs' hzs
        cases h
        rw [hf x y z hz, vzip_snd hf hzs]
  | [], _ :: _, zs, _, h => by simp [vzip] at h
  | _ :: _, [], zs, _, h => by simp [vzip] at h

theorem vcond_true : ∀ (k : Nat) (x y z : Value), vcond true k x y = some z → z = x := by
  intro k
  induction k with
  | zero => intro x y z h; simp [vcond] at h
  | succ k ih =>
    intro x y z h
    unfold vcond at h
    split at h
    · cases h; rfl
    · split at h
      · rename_i e; cases h; rfl
      · cases h
    · cases h; rfl
    · split at h
      · rename_i zs hz; cases h; rw [vzip_fst ih hz]
      · cases h
    · split at h
      · rename_i zs hz; cases h; rw [vzip_fst ih hz]
      · cases h
    · cases h; rfl
    · cases h; rfl
    · cases h; rfl
    · cases h; rfl
    · cases h

theorem vcond_false : ∀ (k : Nat) (x y z : Value), vcond false k x y = some z → z = y := by
  intro k
  induction k with
  | zero => intro x y z h; simp [vcond] at h
  | succ k ih =>
    intro x y z h
    unfold vcond at h
    split at h
    · cases h; rfl
    · split at h
      · rename_i e; cases h; rw [e]; rfl
      · cases h
    · cases h; rfl
    · split at h
      · rename_i zs hz; cases h; rw [vzip_snd ih hz]
      · cases h
    · split at h
      · rename_i zs hz; cases h; rw [vzip_snd ih hz]
      · cases h
    · cases h; rfl
    · cases h; rfl
    · cases h; rfl
    · cases h; rfl
    · cases h

/-! What has to be shown; none: nothing. -/
def Holds : Option Prop → Prop
  | none => True
  | some p => p
def psP : List Prop → Option Prop
  | [] => none
  | p :: ps => some (AllP (p :: ps))
def andP : Option Prop → Option Prop → Option Prop
  | none, q => q
  | some p, none => some p
  | some p, some q => some (p ∧ q)
def condP (b : Bool) : Option Prop → Option Prop → Option Prop
  | none, none => none
  | some p, none => some (b = true → p)
  | none, some q => some (b = false → q)
  | some p, some q => some ((b = true → p) ∧ (b = false → q))

theorem psP_sound {ps : List Prop} (h : Holds (psP ps)) : AllP ps := by
  cases ps with
  | nil => exact trivial
  | cons p ps => exact h

theorem andP_sound {p q : Option Prop} (h : Holds (andP p q)) : Holds p ∧ Holds q := by
  cases p <;> cases q
  · exact ⟨trivial, trivial⟩
  · exact ⟨trivial, h⟩
  · exact ⟨h, trivial⟩
  · exact h

theorem condP_true {p q : Option Prop} (h : Holds (condP true p q)) : Holds p := by
  cases p <;> cases q
  · exact trivial
  · exact trivial
  · exact h rfl
  · exact h.1 rfl

theorem condP_false {p q : Option Prop} (h : Holds (condP false p q)) : Holds q := by
  cases p <;> cases q
  · exact trivial
  · exact h rfl
  · exact trivial
  · exact h.2 rfl

section
variable (C : Cfg) (K : Spec) (K3 : Spec3) (O : List (Nat × FuncId)) (D : List (Tmp × Value)) (fn : Func)

/-- The functions that a region calls by the table on memory. -/
def ofReg (O : List (Nat × FuncId)) (id : Nat) : List FuncId := O.filterMap fun p => if p.1 == id then some p.2 else none

def codeOk : Code → Bool
  | .seq a b => codeOk a && codeOk b
  | .cond _ a b => codeOk a && codeOk b
  | .block _ a => codeOk a
  | .loop a => codeOk a
  | .region _ ops draw => regOk C fn.ntmps ops.toList draw
  | _ => true

def itemOk : Item → Bool
  | .code c => codeOk C fn c
  | .inLoop c => codeOk C fn c
  | _ => true

def sLeaf (T : Tm) (m : Mem) (H : List Value) : Option (Option Prop × Value × List Value) :=
  match resultA C fn m T with
  | some v0 => match sfrz 64 m v0 with
    | some (ps, v) => some (psP ps, v, H)
    | none => none
  | none => none

/-- A branch that is known: a hint at the condition's temporary + 100000. -/
def prune (D : List (Tmp × Value)) : Operand → Option Bool
  | .tmp t => match D.lookup (t + 100000) with
    | some (.bool b) => some b
    | _ => none
  | _ => none

def sRun : Nat → List Item → Tm → Mem → List Value → Option (Option Prop × Value × List Value)
  | 0, _, _, _, _ => none
  | k + 1, todo, T, m, H => match todo with
    | [] => sLeaf C fn T m H
    | .inBlock _ :: r => sRun k r T m H
    | .inLoop c :: r => match H with
      | h :: H' => some (some (RunF C fn (.code c :: .inLoop c :: r) T m h), h, H')
      | [] => none
    | .code c :: r => match c with
      | .skip => sRun k r T m H
      | .ret => sLeaf C fn T m H
      | .seq a b => sRun k (.code a :: .code b :: r) T m H
      | .block id c => sRun k (.code c :: .inBlock id :: r) T m H
      | .loop c => match H with
        | h :: H' => some (some (RunF C fn (.code c :: .inLoop c :: r) T m h), h, H')
        | [] => none
      | .exit id => match exitTo id r with
        | some r' => sRun k r' T m H
        | none => none
      | .cond c a b => match ev C T c with
        | some (.bool t) => match prune D c with
          | some true => match sRun k (.code a :: r) T m H with
            | some (P, v, H') => some (andP (some (t = true)) P, v, H')
            | none => none
          | some false => match sRun k (.code b :: r) T m H with
            | some (P, v, H') => some (andP (some (t = false)) P, v, H')
            | none => none
          | none => match sRun k (.code a :: r) T m H with
            | some (P1, v1, H1) => match sRun k (.code b :: r) T m H1 with
              | some (P2, v2, H2) => match vcond t 16 v1 v2 with
                | some v => some (condP t P1 P2, v, H2)
                | none => none
              | none => none
            | none => none
        | _ => none
      | .region id ops draw => match sOps C K K3 (ofReg O id) ops.toList D ops.toList T [] m with
        | some (ps, T', m', E, ch, ta) => match calm C ops.toList E draw ch ta with
          | some qs => match sRun k r T' m' H with
            | some (P, v, H') => some (andP (psP (ps ++ qs)) P, v, H')
            | none => none
          | none => none
        | none => none
      | _ => none
    | _ => none
end

section
variable {C : Cfg} {K : Spec} {K3 : Spec3} {O : List (Nat × FuncId)} {D : List (Tmp × Value)} {fn : Func}

theorem exitTo_mem {id : Nat} : ∀ {r r' : List Item}, exitTo id r = some r' → ∀ i ∈ r', i ∈ r
  | [], r', h => by simp [exitTo] at h
  | i :: r, r', h => by
    have rest : exitTo id r = some r' → ∀ x ∈ r', x ∈ i :: r := fun h x hx => List.mem_cons_of_mem _ (exitTo_mem h x hx)
    unfold exitTo at h
    split at h
    · rename_i e
      cases e
      split at h
      · cases h
        exact fun x hx => List.mem_cons_of_mem _ hx
      · exact rest h
    · rename_i e
      cases e
      exact rest h
    · rename_i e
      cases e

variable (hC : CfgOK C) (h0 : C.G = 0) (hK : SpecOK C K) (hK3 : Spec3OK C K3)
include hC h0 hK hK3

omit hC h0 hK hK3 in
theorem sLeaf_sound {T : Tm} {m : Mem} {H H' : List Value} {P : Option Prop} {v : Value} (h : sLeaf C fn T m H = some (P, v, H')) (hp : Holds P) : ∃ v0 ns, resultA C fn m T = some v0 ∧ frz 64 m v0 = some (v, ns) := by
  unfold sLeaf at h
  split at h
  · rename_i v0 hr
    split at h
    · rename_i ps v1 hs
      cases h
      obtain ⟨ns, hn⟩ := sfrz_sound m 64 _ _ _ hs (psP_sound hp)
      exact ⟨v0, ns, hr, hn⟩
    · cases h
  · cases h

theorem sRun_sound : ∀ (k : Nat) (todo : List Item) (T : Tm) (m : Mem) (H : List Value) (P : Option Prop) (v : Value) (H' : List Value), sRun C K K3 O D fn k todo T m H = some (P, v, H') → (∀ i ∈ todo, itemOk C fn i = true) → Holds P → RunF C fn todo T m v := by
  intro k
  induction k with
  | zero => intro todo T m H P v H' h; simp [sRun] at h
  | succ k ih =>
    intro todo T m H P v H' h hok hp
    have lift : ∀ {todo' : List Item}, RunF C fn todo' T m v → (∀ {v0 m'}, Run C 0 fn todo' T m v0 m' → Run C 0 fn todo T m v0 m') → RunF C fn todo T m v := by
      rintro todo' ⟨v0, m', ns, h1, h2⟩ hr
      exact ⟨v0, m', ns, hr h1, h2⟩
    unfold sRun at h
    split at h
    · obtain ⟨v0, ns, h1, h2⟩ := sLeaf_sound h hp
      exact ⟨v0, m, ns, .end hC h1, h2⟩
    · exact lift (ih _ _ _ _ _ _ _ h (fun i hi => hok i (List.mem_cons_of_mem _ hi)) hp) .inBlock
    · split at h
      · cases h
        exact lift hp .inLoop
      · cases h
    · rename_i c r
      have hc := hok (.code c) (List.mem_cons_self ..)
      have hr : ∀ i ∈ r, itemOk C fn i = true := fun i hi => hok i (List.mem_cons_of_mem _ hi)
      have cons : ∀ {x : Item} {l : List Item}, itemOk C fn x = true → (∀ i ∈ l, itemOk C fn i = true) → ∀ i ∈ x :: l, itemOk C fn i = true := by
        intro x l h1 h2 i hi
        rw [List.mem_cons] at hi
        rcases hi with rfl | hi
        · exact h1
        · exact h2 i hi
      split at h
      · exact lift (ih _ _ _ _ _ _ _ h hr hp) .skip
      · obtain ⟨v0, ns, h1, h2⟩ := sLeaf_sound h hp
        exact ⟨v0, m, ns, .ret hC h1, h2⟩
      · rename_i a b
        have hc' : codeOk C fn a = true ∧ codeOk C fn b = true := by
          have : (codeOk C fn a && codeOk C fn b) = true := hc
          simpa using this
        exact lift (ih _ _ _ _ _ _ _ h (cons hc'.1 (cons hc'.2 hr)) hp) .seq
      · exact lift (ih _ _ _ _ _ _ _ h (cons hc (cons rfl hr)) hp) .block
      · split at h
        · cases h
          exact lift hp .loop
        · cases h
      · split at h
        · rename_i r' he
          exact lift (ih _ _ _ _ _ _ _ h (fun i hi => hr i (exitTo_mem he i hi)) hp) (.exit he)
        · cases h
      · rename_i c a b
        have hc' : codeOk C fn a = true ∧ codeOk C fn b = true := by
          have : (codeOk C fn a && codeOk C fn b) = true := hc
          simpa using this
        split at h
        · rename_i t ht
          split at h
          · split at h
            · rename_i P1 v1 H1 h1
              cases h
              have hpp := andP_sound hp
              have e : t = true := hpp.1
              subst e
              exact lift (ih _ _ _ _ _ _ _ h1 (cons hc'.1 hr) hpp.2) (.tt ht)
            · cases h
          · split at h
            · rename_i P1 v1 H1 h1
              cases h
              have hpp := andP_sound hp
              have e : t = false := hpp.1
              subst e
              exact lift (ih _ _ _ _ _ _ _ h1 (cons hc'.2 hr) hpp.2) (.ff ht)
            · cases h
          · split at h
            · rename_i P1 v1 H1 h1
              split at h
              · rename_i P2 v2 H2 h2
                split at h
                · rename_i v3 hv
                  cases h
                  cases t with
                  | true =>
                    cases vcond_true _ _ _ _ hv
                    exact lift (ih _ _ _ _ _ _ _ h1 (cons hc'.1 hr) (condP_true hp)) (.tt ht)
                  | false =>
                    cases vcond_false _ _ _ _ hv
                    exact lift (ih _ _ _ _ _ _ _ h2 (cons hc'.2 hr) (condP_false hp)) (.ff ht)
                · cases h
              · cases h
            · cases h
        · cases h
      · split at h
        · rename_i ps T' m' E ch ta hs
          split at h
          · rename_i qs hq
            split at h
            · rename_i P1 v1 H1 h1
              cases h
              have hpp := andP_sound hp
              have hps := (psP_sound hpp.1).append
              exact RunF.region hC h0 hK hK3 hc hs hq hps.1 hps.2 (ih _ _ _ _ _ _ _ h1 hr hpp.2)
            · cases h
          · cases h
        · cases h
      · cases h
    · cases h

/-- A contract by evaluation. -/
theorem Fz.of_sRun {f : FuncId} {c : Code} {args : List Value} {P : Option Prop} {v v' : Value} {H H' : List Value} {k : Nat} (hg : C.P.funcs[f]? = some fn) (hb : fn.body = some c) (hl : args.length ≤ fn.ntmps) (hn : (fn.name == "runtime.NumGoroutine") = false)
    (hlow : renL 64 inert (low 0) args = some args) (hok : codeOk C fn c = true) (h : sRun C K K3 O D fn k [.code c] (argsT 0 args) [] H = some (P, v, H')) (hp : Holds P) (he : v = v') : Fz C f args v' := by
  subst he
  refine Fz.of_run h0 hg hb hl hn (renL_sound hlow) (sRun_sound hC h0 hK hK3 _ _ _ _ _ _ _ _ h (fun i hi => ?_) hp)
  simp only [List.mem_singleton] at hi
  subst hi
  exact hok
end
end Go.Ab

namespace Go.Ab

/-! ## The table of types is checked by evaluation -/

def TD.ofB : TD → TypeDesc → Bool
  | .int k, .int k' => k == k'
  | .bool, .bool => true
  | .str, .string => true
  | .slice e, .slice e' => e == e'
  | .struct fs, .struct gs => gs.toList.map (fun f => (f.offset, f.type)) == fs
  | .ptr, .pointer _ => true
  | .func, .func _ _ _ => true
  | _, _ => false

def constEq : Value → Value → Bool
  | .bool a, .bool b => a == b
  | .int k a, .int k' b => k == k' && a == b
  | .string a, .string b => a.size == 0 && b.size == 0
  | .pointer none, .pointer none => true
  | .slice none 0 0, .slice none 0 0 => true
  | .nilFunc, .nilFunc => true
  | _, _ => false

def constEqL : List Value → List Value → Bool
  | [], [] => true
  | x :: xs, y :: ys => constEq x y && constEqL xs ys
  | _, _ => false

def tyB (P : Program) (t : Nat) (x : TI) : Bool :=
  match P.info? t, P.underlying t with
  | some i, some d => match i.zero with
    | some z => x.d.ofB d && i.size == x.size && i.bytes == x.bytes && constEqL z.cells.toList x.zero && x.zero.all constOk && x.zero.length == x.size && (match x.d with
      | .struct fs => fs.all fun p => (P.info? p.2).isSome
      | _ => true)
    | none => false
  | _, _ => false

theorem ofB_sound {d : TD} {x : TypeDesc} (h : d.ofB x = true) : d.of x := by
  unfold TD.ofB at h
  unfold TD.of
  split at h <;> first | trivial | (simpa using h) | cases h

theorem bytes_empty {a b : ByteArray} (h : a.size = 0) (g : b.size = 0) : a = b := by
  obtain ⟨x⟩ := a
  obtain ⟨y⟩ := b
  have h : x.size = 0 := h
  have g : y.size = 0 := g
  rw [Array.eq_empty_of_size_eq_zero h, Array.eq_empty_of_size_eq_zero g]

theorem constEq_sound {a b : Value} (h : constEq a b = true) : a = b := by
  unfold constEq at h
  split at h
  · simp only [beq_iff_eq] at h; rw [h]
  · simp only [Bool.and_eq_true, beq_iff_eq] at h; rw [h.1, h.2]
  · simp only [Bool.and_eq_true, beq_iff_eq] at h
    rw [bytes_empty h.1 h.2]
  · rfl
  · rfl
  · rfl
  · cases h

theorem constEqL_sound : ∀ {xs ys : List Value}, constEqL xs ys = true → xs = ys
  | [], [], _ => rfl
  | x :: xs, y :: ys, h => by
    simp only [constEqL, Bool.and_eq_true] at h
    rw [constEq_sound h.1, constEqL_sound h.2]
  | [], _ :: _, h => by cases h
  | _ :: _, [], h => by cases h

theorem tyB_sound {P : Program} {t : Nat} {x : TI} (h : tyB P t x = true) : TyFits P t x := by
  unfold tyB at h
  split at h
  · rename_i i d hi hd
    split at h
    · rename_i z hz
      simp only [Bool.and_eq_true, beq_iff_eq, List.all_eq_true] at h
      obtain ⟨⟨⟨⟨⟨⟨h1, h2⟩, h3⟩, h4⟩, h5⟩, h6⟩, h7⟩ := h
      refine ⟨⟨i, d, z, hi, hd, ofB_sound h1, h2, h3, hz, constEqL_sound h4⟩, h5, h6, fun fs hfs p hp => ?_⟩
      rw [hfs] at h7
      simp only [List.all_eq_true] at h7
      exact h7 p hp
    · cases h
  · cases h

/-- The table: a list of numbers and entries. -/
def tyOf (l : List (Nat × TI)) (t : Nat) : TI := (l.lookup t).getD TI.none

theorem tyOf_fits {P : Program} {l : List (Nat × TI)} (h : l.all (fun p => tyB P p.1 p.2) = true) (t : Nat) (ht : isOther (tyOf l t).d = false) : TyFits P t (tyOf l t) := by
  unfold tyOf at ht ⊢
  cases hl : l.lookup t with
  | none => rw [hl] at ht; simp [TI.none, isOther] at ht
  | some x =>
    simp only [Option.getD_some]
    have hm : (t, x) ∈ l := by
      clear ht h
      induction l with
      | nil => simp at hl
      | cons p l ih =>
        obtain ⟨a, b⟩ := p
        rw [List.lookup_cons] at hl
        split at hl
        · rename_i e
          have e : t = a := by simpa using e
          subst e
          cases hl
          exact List.mem_cons_self ..
        · exact List.mem_cons_of_mem _ (ih hl)
    rw [List.all_eq_true] at h
    exact tyB_sound (h _ hm)
end Go.Ab

namespace Go.Ab

theorem holds_none : Holds none := trivial
theorem andP_intro {p q : Option Prop} (h : Holds p) (g : Holds q) : Holds (andP p q) := by
  cases p <;> cases q
  · exact trivial
  · exact g
  · exact h
  · exact ⟨h, g⟩
theorem condP_intro {b : Bool} {p q : Option Prop} (h : b = true → Holds p) (g : b = false → Holds q) : Holds (condP b p q) := by
  cases p <;> cases q
  · exact trivial
  · exact g
  · exact h
  · exact ⟨h, g⟩
theorem psP_intro {ps : List Prop} (h : AllP ps) : Holds (psP ps) := by
  cases ps
  · exact trivial
  · exact h
theorem all_nil : AllP [] := trivial
theorem all_one {p : Prop} (h : p) : AllP [p] := h
theorem all_cons {p : Prop} {ps : List Prop} (h : p) (g : AllP ps) : AllP (p :: ps) := by
  cases ps
  · exact h
  · exact ⟨h, g⟩
theorem all_append {ps qs : List Prop} (h : AllP ps) (g : AllP qs) : AllP (ps ++ qs) := by
  induction ps with
  | nil => exact g
  | cons p ps ih => exact all_cons h.cons.1 (ih h.cons.2)
theorem all_under {c : Bool} {ps : List Prop} (h : c = true → AllP ps) : AllP (under c ps) := by
  cases ps
  · exact trivial
  · exact h
end Go.Ab

namespace Go.Ab

/-! ## Tables of contracts, heads of loops, lists of numbers -/

def Spec.none : Spec := fun _ _ => Option.none
def Spec.add (K : Spec) (f : FuncId) (s : List Value → Prop × Value) : Spec := fun g args => if g = f then some (s args) else K g args

def Spec3.none : Spec3 := fun _ _ _ => Option.none
def Spec3.add (K : Spec3) (f : FuncId) (s : List Value → Mem → Prop × Value × Mem) : Spec3 := fun g args m => if g = f then some (s args m) else K g args m

section
variable {C : Cfg} {K : Spec}
theorem Spec3OK.none : Spec3OK C Spec3.none := fun f args m P v m' h => by cases h
theorem Spec3OK.add {K : Spec3} {f : FuncId} {s : List Value → Mem → Prop × Value × Mem} (hK : Spec3OK C K) (h : ∀ args m, (s args m).1 → Con C f args m (s args m).2.1 (s args m).2.2) : Spec3OK C (K.add f s) := by
  intro g args m P v m' hs hP
  unfold Spec3.add at hs
  split at hs
  · rename_i e
    subst e
    cases he : s args m with
    | mk P1 w =>
      obtain ⟨v1, m1⟩ := w
      rw [he] at hs
      cases hs
      have := h args m
      rw [he] at this
      exact this hP
  · exact hK g args m P v m' hs hP
theorem SpecOK.none : SpecOK C Spec.none := fun f args P v h => by cases h
theorem SpecOK.add {f : FuncId} {s : List Value → Prop × Value} (hK : SpecOK C K) (h : ∀ args, (s args).1 → Fz C f args (s args).2) : SpecOK C (K.add f s) := by
  intro g args P v hs hP
  unfold Spec.add at hs
  split at hs
  · rename_i e
    subst e
    cases he : s args with
    | mk P1 v1 =>
      rw [he] at hs
      cases hs
      have := h args
      rw [he] at this
      exact this hP
  · exact hK g args P v hs hP
end

/-- The arguments are of the contract's form. -/
def Hit {X : Type} (enc : X → List Value) (dec : List Value → X) (pre : X → Prop) (args : List Value) : Prop := args = enc (dec args) ∧ pre (dec args)

theorem hit_intro {X : Type} {enc : X → List Value} {dec : List Value → X} {pre : X → Prop} {args : List Value} (h : args = enc (dec args)) (g : pre (dec args)) : Hit enc dec pre args := ⟨h, g⟩
theorem hit_of {X : Type} {enc : X → List Value} {dec : List Value → X} {pre : X → Prop} {args : List Value} (x : X) (h : args = enc x) (hd : dec (enc x) = x) (g : pre x) : Hit enc dec pre args := by
  subst h
  exact ⟨by rw [hd], by rw [hd]; exact g⟩

/-- A contract by what the arguments stand for. -/
def fam {X : Type} (enc : X → List Value) (dec : List Value → X) (pre : X → Prop) (val : X → Value) : List Value → Prop × Value := fun args => (Hit enc dec pre args, val (dec args))

theorem fam_ok {C : Cfg} {f : FuncId} {X : Type} {enc : X → List Value} {dec : List Value → X} {pre : X → Prop} {val : X → Value} (h : ∀ x, pre x → Fz C f (enc x) (val x)) : ∀ args, (fam enc dec pre val args).1 → Fz C f args (fam enc dec pre val args).2 := by
  intro args hp
  obtain ⟨h1, h2⟩ : args = enc (dec args) ∧ pre (dec args) := hp
  have := h (dec args) h2
  rw [← h1] at this
  exact this

/-- What is to be done at the head of each loop. -/
def heads : Code → List Item → List (List Item)
  | .seq a b, r => heads a (.code b :: r) ++ heads b r
  | .cond _ a b, r => heads a r ++ heads b r
  | .block id c, r => heads c (.inBlock id :: r)
  | .loop c, r => (.code c :: .inLoop c :: r) :: heads c (.inLoop c :: r)
  | _, _ => []

def atLoop (fn : Func) (i : Nat) : List Item :=
  match fn.body with
  | some c => (heads c []).getD i []
  | none => []

section
variable {C : Cfg} {K : Spec} {K3 : Spec3} {O : List (Nat × FuncId)} {D : List (Tmp × Value)} {fn : Func}

theorem heads_ok : ∀ (c : Code) (r : List Item), codeOk C fn c = true → (∀ i ∈ r, itemOk C fn i = true) → ∀ l ∈ heads c r, ∀ i ∈ l, itemOk C fn i = true
  | .seq a b, r, h, hr, l, hl => by
    simp only [codeOk, Bool.and_eq_true] at h
    simp only [heads, List.mem_append] at hl
    rcases hl with hl | hl
    · refine heads_ok a _ h.1 (fun i hi => ?_) l hl
      rw [List.mem_cons] at hi
      rcases hi with rfl | hi
      · exact h.2
      · exact hr i hi
    · exact heads_ok b r h.2 hr l hl
  | .cond _ a b, r, h, hr, l, hl => by
    simp only [codeOk, Bool.and_eq_true] at h
    simp only [heads, List.mem_append] at hl
    rcases hl with hl | hl
    · exact heads_ok a r h.1 hr l hl
    · exact heads_ok b r h.2 hr l hl
  | .block id c, r, h, hr, l, hl => by
    simp only [heads] at hl
    refine heads_ok c _ h (fun i hi => ?_) l hl
    rw [List.mem_cons] at hi
    rcases hi with rfl | hi
    · rfl
    · exact hr i hi
  | .loop c, r, h, hr, l, hl => by
    have h' : codeOk C fn c = true := h
    simp only [heads, List.mem_cons] at hl
    rcases hl with rfl | hl
    · intro i hi
      simp only [List.mem_cons] at hi
      rcases hi with rfl | rfl | hi
      · exact h'
      · exact h'
      · exact hr i hi
    · refine heads_ok c _ h (fun i hi => ?_) l hl
      rw [List.mem_cons] at hi
      rcases hi with rfl | hi
      · exact h'
      · exact hr i hi
  | .skip, r, _, _, l, hl => by simp [heads] at hl
  | .ret, r, _, _, l, hl => by simp [heads] at hl
  | .exit _, r, _, _, l, hl => by simp [heads] at hl
  | .region _ _ _, r, _, _, l, hl => by simp [heads] at hl
  | .label _, r, _, _, l, hl => by simp [heads] at hl
  | .goto _, r, _, _, l, hl => by simp [heads] at hl

theorem atLoop_ok {c : Code} (hb : fn.body = some c) (h : codeOk C fn c = true) (i : Nat) : ∀ x ∈ atLoop fn i, itemOk C fn x = true := by
  unfold atLoop
  rw [hb]
  simp only
  intro x hx
  rw [List.getD_eq_getElem?_getD] at hx
  cases hg : (heads c [])[i]? with
  | none => rw [hg] at hx; simp at hx
  | some l =>
    rw [hg] at hx
    exact heads_ok c [] h (fun i hi => by cases hi) l (List.mem_of_getElem? hg) x hx

/-- A round of a loop, by evaluation. -/
theorem RunF.of_sRun (hC : CfgOK C) (h0 : C.G = 0) (hK : SpecOK C K) (hK3 : Spec3OK C K3) {c : Code} (hb : fn.body = some c) (hok : codeOk C fn c = true) {i : Nat} {T : Tm} {m : Mem} {P : Option Prop} {v v' : Value} {H H' : List Value} (k : Nat)
    (h : sRun C K K3 O D fn k (atLoop fn i) T m H = some (P, v, H')) (hp : Holds P) (he : v = v') : RunF C fn (atLoop fn i) T m v' := by
  subst he
  exact sRun_sound hC h0 hK hK3 _ _ _ _ _ _ _ _ h (atLoop_ok hb hok i) hp

/-! The needed temporaries. -/
theorem simT_nil {π : Nat → Option Nat} {T : Tm} : SimT inert π T [] := trivial
theorem simT_cons {π : Nat → Option Nat} {T T0 : Tm} {t : Tmp} {v v0 v1 : Value} (h : T.lookup t = some v) (hr : renV 64 inert π v0 = some v1) (e : v = v1) (r : SimT inert π T T0) : SimT inert π T ((t, v0) :: T0) :=
  ⟨⟨v1, by rw [h, e], renV_sound hr⟩, r⟩

theorem simM_nil {m : Mem} : SimM inert (fun _ => none) [] m := by
  refine ⟨fun a b c h => ?_, fun n n' h => ?_, fun n n' b0 h => ?_⟩
  · cases h
  · cases h
  · simp at h

theorem RunF.norm0 (h0 : C.G = 0) {todo : List Item} {T T0 : Tm} {m : Mem} {v : Value} (hT : SimT inert (fun _ => none) T T0) (h : RunF C fn todo T0 [] v) : RunF C fn todo T m v :=
  h.norm h0 _ hT simM_nil

/-- The blocks, under their names. -/
def SimB (π : Nat → Option Nat) (m : Mem) : List Nat → Mem → Prop
  | [], [] => True
  | n :: ns, b0 :: bs => (∃ b, m[n]? = some b ∧ SB inert π b0 b) ∧ SimB π m ns bs
  | _, _ => False

theorem SimB.get {π : Nat → Option Nat} {m : Mem} : ∀ {ns : List Nat} {bs : Mem}, SimB π m ns bs → ns.length = bs.length ∧ ∀ (i : Nat) n b0, ns[i]? = some n → bs[i]? = some b0 → ∃ b, m[n]? = some b ∧ SB inert π b0 b
  | [], [], _ => ⟨rfl, fun i n b0 h => by simp at h⟩
  | n :: ns, b0 :: bs, h => by
    have := h.2.get
    refine ⟨by simp [this.1], fun i n' b' h1 h2 => ?_⟩
    cases i with
    | zero => simp at h1 h2; subst h1 h2; exact h.1
    | succ i => simp at h1 h2; exact this.2 i n' b' h1 h2
  | [], _ :: _, h => h.elim
  | _ :: _, [], h => h.elim

theorem simB_nil {π : Nat → Option Nat} {m : Mem} : SimB π m [] [] := trivial
/-- A block whose cells have no names. -/
theorem simB_leaf {π : Nat → Option Nat} {m : Mem} {n : Nat} {ns : List Nat} {b b0 : Blk} {bs : Mem} (h : m[n]? = some b) (e1 : b.es = b0.es) (e2 : b.own = b0.own) (e3 : b.live = b0.live) (e4 : b.cells = b0.cells) (e5 : b0.cells.all inert = true) (r : SimB π m ns bs) : SimB π m (n :: ns) (b0 :: bs) :=
  ⟨⟨b, h, e1, e2, e3, fun _ => by rw [e4]; exact .leaf e5⟩, r⟩
theorem simB_cons {π : Nat → Option Nat} {m : Mem} {n : Nat} {ns : List Nat} {b b0 : Blk} {bs : Mem} {cs : List Value} (h : m[n]? = some b) (e1 : b.es = b0.es) (e2 : b.own = b0.own) (e3 : b.live = b0.live) (hr : renL 64 inert π b0.cells = some cs) (e4 : b.cells = cs) (r : SimB π m ns bs) : SimB π m (n :: ns) (b0 :: bs) :=
  ⟨⟨b, h, e1, e2, e3, fun _ => by rw [e4]; exact renL_sound hr⟩, r⟩

theorem SimB.simM {m m0 : Mem} {ns : List Nat} (hn : ns.Nodup) (h : SimB (fun i => ns[i]?) m ns m0) : SimM inert (fun i => ns[i]?) m0 m := by
  obtain ⟨hl, hg⟩ := h.get
  refine ⟨fun a b c h1 h2 => ?_, fun n n' h1 => ?_, fun n n' b0 h1 h2 => hg n n' b0 h2 h1⟩
  · have a1 := List.getElem?_eq_some_iff.1 h1
    have a2 := List.getElem?_eq_some_iff.1 h2
    exact (List.getElem_inj hn (h₀ := a1.1) (h₁ := a2.1)).1 (a1.2.trans a2.2.symm)
  · rw [← hl]; exact (List.getElem?_eq_some_iff.1 h1).1

theorem RunF.normM (h0 : C.G = 0) (ns : List Nat) (hn : ns.Nodup) {todo : List Item} {T T0 : Tm} {m m0 : Mem} {v : Value} (hT : SimT inert (fun i => ns[i]?) T T0) (hM : SimB (fun i => ns[i]?) m ns m0) (h : RunF C fn todo T0 m0 v) : RunF C fn todo T m v :=
  h.norm h0 _ hT (hM.simM hn)
end

theorem holds_some {p : Prop} (h : p) : Holds (some p) := h

/-! Lists of numbers. -/
abbrev intsV (k : IntKind) (l : List Int) : Value := roS l.length (l.map (.int k))
def intsD (v : Value) : List Int := (cellsS v).map intOf

@[simp] theorem intOf_int (k : IntKind) (n : Int) : intOf (.int k n) = n := rfl
@[simp] theorem boolOf_bool (b : Bool) : boolOf (.bool b) = b := rfl
@[simp] theorem strOf_string (s : ByteArray) : strOf (.string s) = s := rfl
@[simp] theorem lenS_roS (n : Nat) (cs : List Value) : lenS (roS n cs) = n := rfl
@[simp] theorem cellsS_roS (n : Nat) (cs : List Value) : cellsS (roS n cs) = cs := by simp [roS, cellsS]
@[simp] theorem lenS_iface (n : Nat) (x : Value) : lenS (.iface n x) = n := rfl
@[simp] theorem cellsS_iface (n : Nat) (cs : Array Value) : cellsS (.iface n (.agg cs)) = cs.toList := rfl
@[simp] theorem cells_agg (cs : Array Value) : (Value.agg cs).cells = cs := rfl
@[simp] theorem intsD_intsV (k : IntKind) (l : List Int) : intsD (intsV k l) = l := by
  simp only [intsD, intsV, cellsS_roS, List.map_map]
  conv => rhs; rw [← List.map_id l]
  rfl
@[simp] theorem cells_int (k : IntKind) (n : Int) : (Value.int k n).cells = #[Value.int k n] := rfl
@[simp] theorem cells_bool (b : Bool) : (Value.bool b).cells = #[Value.bool b] := rfl
@[simp] theorem cells_iface (n : Nat) (v : Value) : (Value.iface n v).cells = #[Value.iface n v] := rfl
@[simp] theorem intsD_iface (n : Nat) (cs : Array Value) : intsD (.iface n (.agg cs)) = cs.toList.map intOf := rfl
attribute [simp] splice
@[simp] theorem map_intOf (k : IntKind) (l : List Int) : List.map (intOf ∘ Value.int k) l = l := by
  conv => rhs; rw [← List.map_id l]
  rfl
@[simp] theorem lenS_intsV (k : IntKind) (l : List Int) : lenS (intsV k l) = l.length := rfl
@[simp] theorem cellsS_intsV (k : IntKind) (l : List Int) : cellsS (intsV k l) = l.map (.int k) := by simp [intsV]
@[simp] theorem getD_int (k : IntKind) (l : List Int) (i : Nat) : intOf ((l[i]?.map (Value.int k)).getD .nilFunc) = l[i]?.getD 0 := by
  cases l[i]? <;> rfl
@[simp] theorem all_inert_int (k : IntKind) (l : List Int) : (l.map (Value.int k)).all inert = true := by simp [inert]
@[simp] theorem all_fixd_int (k : IntKind) (l : List Int) : (l.map (Value.int k)).all fixd = true := by simp [fixd]

/-- One of a list of numbers, loaded. -/
theorem load_ints {k : IntKind} {l : List Int} {j s : Nat} (hs : 0 < s) (h : j < l.length) :
    List.take 1 (List.take s (List.drop j (l.map (Value.int k)).toArray.toList)).toArray.toList = [Value.int k (intOf ((List.take s (List.drop j (l.map (Value.int k)).toArray.toList)).toArray.toList.getD 0 .nilFunc))] := by
  obtain ⟨s, rfl⟩ : ∃ s', s = s' + 1 := ⟨s - 1, by omega⟩
  have : List.drop j (l.map (Value.int k)) = Value.int k l[j] :: List.drop (j + 1) (l.map (Value.int k)) := by
    rw [List.drop_eq_getElem_cons (by simpa using h)]
    simp
  simp [this]

theorem loaded {k : IntKind} {l : List Int} {j s : Nat} (hs : 0 < s) : intOf ((List.take s (List.drop j (l.map (Value.int k)).toArray.toList)).toArray.toList.getD 0 .nilFunc) = l.getD j 0 := by
  obtain ⟨s, rfl⟩ : ∃ s', s = s' + 1 := ⟨s - 1, by omega⟩
  simp only [List.getD_eq_getElem?_getD]
  rw [List.getElem?_take_of_lt (by omega), List.getElem?_drop]
  simp

theorem take1_drop {l : List Value} {j : Nat} (h : j < l.length) : (l.drop j).take 1 = [l[j]] := by
  rw [List.drop_eq_getElem_cons h]
  rfl

/-- Whole numbers that fit. -/
theorem wrap64 {n : Int} (h : -9223372036854775808 ≤ n) (h' : n < 9223372036854775808) : IntKind.i64.wrap n = n := by
  unfold IntKind.wrap
  simp only [IntKind.bits, IntKind.signed, Bool.true_and, decide_eq_true_eq, ge_iff_le]
  by_cases hc : (2 : Int) ^ (64 - 1) ≤ n % 2 ^ 64
  · rw [if_pos hc]; omega
  · rw [if_neg hc]; omega
end Go.Ab

namespace Go.Ab

/-! ## The arguments of a claim, as values with all that they reach inline -/

/-- Everything that is there is frozen. -/
def iceAll (W : World) : Emb := { loc := fun _ => none, fz := fun g => match W.heap[g]? with
  | some (.cells c _ _) => some c
  | _ => none }

theorem iceAll_rep (B : Nat) (W : World) : Rep B (iceAll W) [] W := by
  refine ⟨?_, ?_, ?_, ?_, ?_, ?_, ?_⟩
  · intro n l b h; cases h
  · intro n n' l l' b b' _ h; cases h
  · intro n l b h; cases h
  · intro n l b h; cases h
  · intro g c h
    have h : (match W.heap[g]? with
      | some (.cells c _ _) => some c
      | _ => none) = some c := h
    split at h
    · rename_i e z hh
      cases h
      exact ⟨_, _, hh⟩
    · cases h
  · intro n l b h; cases h
  · intro n l b h; cases h

theorem iceAll_bare (W : World) : (iceAll W).bare = iceAll W := rfl

theorem iceAll_cell {W : World} {a : Addr} {v : Value} (h : W.cell? a = some v) : a.spot = none ∧ ∃ c, (iceAll W).fz a.block = some c ∧ c[a.off]? = some v := by
  refine ⟨World.cell?_spot h, ?_⟩
  unfold World.cell? at h
  split at h
  · rename_i c e z hc
    split at h
    · cases h
    · refine ⟨c, ?_, h⟩
      show (match W.heap[a.block]? with
        | some (.cells c _ _) => some c
        | _ => none) = some c
      rw [hc]
  · cases h

theorem addr_add2 (a : Addr) (x y : Nat) : (a.add x).add y = a.add (x + y) := by
  unfold Addr.add
  by_cases hx : x = 0
  · subst hx; simp
  · by_cases hy : y = 0
    · subst hy; simp [hx]
    · simp [hx, hy, Nat.add_assoc]

/-- The cells of a value of a type. -/
inductive Typed (C : Cfg) : Nat → List Value → Prop where
  | int (t : Nat) (q : IntKind) (n : Int) : (C.ty t).d = .int q → (Lit.int q n).wf = true → Typed C t [.int q n]
  | bool (t : Nat) (b : Bool) : (C.ty t).d = .bool → Typed C t [.bool b]
  | str (t : Nat) (s : ByteArray) : (C.ty t).d = .str → s.size ≤ maxLen → Typed C t [.string s]
  | slice (t e : Nat) (L : List (List Value)) : (C.ty t).d = .slice e → L.length ≤ maxLen → (∀ x ∈ L, Typed C e x) → (∀ x ∈ L, x.length = (C.ty e).size) → Typed C t [roS L.length L.flatten]
  | struct (t : Nat) (fs : List (Nat × Nat)) (cs : List Value) : (C.ty t).d = .struct fs → cs.length = (C.ty t).size → (∀ p ∈ fs, Typed C p.2 ((cs.drop p.1).take (C.ty p.2).size)) → Typed C t cs

/-- The parts of a struct lie one behind the other. -/
def tiles (C : Cfg) : List (Nat × Nat) → Nat → Nat → Bool
  | [], o, n => o == n
  | (off, t) :: fs, o, n => off == o && tiles C fs (o + (C.ty t).size) n

/-- Types that are read so, all their parts with them. -/
def goodB (C : Cfg) (l : List Nat) : Bool := l.all fun t => match (C.ty t).d with
  | .int _ => true
  | .bool => true
  | .str => true
  | .slice e => l.contains e && (C.ty e).size != 0
  | .struct fs => fs.all (fun p => l.contains p.2) && tiles C fs 0 (C.ty t).size
  | _ => false

section
variable {C : Cfg} (hC : CfgOK C)
include hC

theorem cellsOf_ty {t : Nat} {d : TD} (h : (C.ty t).d = d) (hd : isOther d = false) : C.P.cellsOf t = (C.ty t).size := by
  obtain ⟨i, _, z, h1, _, _, h4, _⟩ := (ty_fits hC h hd).ex
  unfold Program.cellsOf
  rw [h1]
  exact h4

omit hC in
theorem pick_list {α : Type} {p : Nat → α → Prop} : ∀ (n : Nat), (∀ i, i < n → ∃ x, p i x) → ∃ L : List α, L.length = n ∧ ∀ (i : Nat) x, L[i]? = some x → p i x := by
  intro n
  induction n with
  | zero => exact fun _ => ⟨[], rfl, fun i x h => by simp at h⟩
  | succ n ih =>
    intro h
    obtain ⟨L, h1, h2⟩ := ih (fun i hi => h i (by omega))
    obtain ⟨x, hx⟩ := h n (by omega)
    refine ⟨L ++ [x], by simp [h1], fun i y hy => ?_⟩
    rcases Nat.lt_or_ge i L.length with hi | hi
    · rw [List.getElem?_append_left hi] at hy
      exact h2 i y hy
    · rw [List.getElem?_append_right hi] at hy
      have hl := (List.getElem?_eq_some_iff.1 hy).1
      simp at hl
      have : i = n := by omega
      subst this
      rw [h1] at hy
      simp at hy
      subst hy
      exact hx

omit hC in
theorem flatten_get {n : Nat} (hn : 0 < n) : ∀ (L : List (List Value)), (∀ x ∈ L, x.length = n) → ∀ (j : Nat) v, L.flatten[j]? = some v → ∃ x, L[j / n]? = some x ∧ x[j % n]? = some v
  | [], _, j, v, h => by simp at h
  | x :: L, hL, j, v, h => by
    have hx := hL x (List.mem_cons_self ..)
    rw [List.flatten_cons] at h
    rcases Nat.lt_or_ge j n with hj | hj
    · rw [List.getElem?_append_left (by omega)] at h
      refine ⟨x, ?_, ?_⟩
      · rw [Nat.div_eq_of_lt hj]; rfl
      · rw [Nat.mod_eq_of_lt hj]; exact h
    · rw [List.getElem?_append_right (by omega), hx] at h
      obtain ⟨y, h1, h2⟩ := flatten_get hn L (fun z hz => hL z (List.mem_cons_of_mem _ hz)) (j - n) v h
      refine ⟨y, ?_, ?_⟩
      · rw [Nat.div_eq_sub_div hn hj, List.getElem?_cons_succ]; exact h1
      · rw [Nat.mod_eq_sub_mod hj]; exact h2

omit hC in
theorem flatten_length {n : Nat} : ∀ (L : List (List Value)), (∀ x ∈ L, x.length = n) → L.flatten.length = L.length * n
  | [], _ => by simp
  | x :: L, hL => by
    rw [List.flatten_cons, List.length_append, hL x (List.mem_cons_self ..), flatten_length L (fun z hz => hL z (List.mem_cons_of_mem _ hz)), List.length_cons, Nat.add_mul]
    omega

variable {H : Type} {enc : TypeId × Value → H} {W : World} {base : Nat} {spare : Nat → Bool} {held : Bool}

theorem read {l : List Nat} (hg : goodB C l = true) : ∀ (fuel : Nat) (t : Nat) (cs : List Value) (x : DataW H × List MemPlace), t ∈ l → DataW.trod enc C.P W base spare held fuel t cs = some x →
    ∃ cs0, VRL (iceAll W) cs0 cs ∧ Typed C t cs0 ∧ cs0.all flat = true := by
  intro fuel
  induction fuel with
  | zero => intro t cs x _ h; simp [DataW.trod] at h
  | succ fuel ih =>
    intro t cs x ht h
    have hgt := hg
    unfold goodB at hgt
    rw [List.all_eq_true] at hgt
    have hgt := hgt t ht
    split at hgt
    · rename_i q hd
      obtain ⟨n, rfl, _, hw⟩ := DataW.trod_int (under_int hC hd) h
      exact ⟨[.int q n], .cons (.int q n) .nil, .int t q n hd hw, rfl⟩
    · rename_i hd
      obtain ⟨b, rfl, _⟩ := DataW.trod_bool (under_bool hC hd) h
      exact ⟨[.bool b], .cons (.bool b) .nil, .bool t b hd, rfl⟩
    · rename_i hd
      obtain ⟨s, rfl, _, hs⟩ := DataW.trod_string (under_str hC hd) h
      exact ⟨[.string s], .cons (.string s) .nil, .str t s hd hs, rfl⟩
    · rename_i e hd
      simp only [Bool.and_eq_true, bne_iff_ne, ne_eq] at hgt
      have he : e ∈ l := by simpa using hgt.1
      have hoe : isOther (C.ty e).d = false := by
        have hge := hg
        unfold goodB at hge
        rw [List.all_eq_true] at hge
        have := hge e he
        split at this <;> simp_all [isOther]
      have hce := cellsOf_ty hC (t := e) rfl hoe
      have hn : 0 < (C.ty e).size := by omega
      rcases DataW.trod_slice (under_slice hC hd) h with ⟨rfl, _⟩ | ⟨a, len, cap, elems, rest, n, hf, rfl, _, hb, hl, hm, hlen, hel, _, _⟩
      · exact ⟨[roS 0 []], .cons (.ro0 none 0 trivial) .nil, .slice t e [] hd (by simp) (by simp) (by simp), rfl⟩
      · cases hf
        have each : ∀ i, i < len → ∃ x : List Value × List Value, W.cells? base (a.add (i * (C.ty e).size)) (C.ty e).size = some x.1 ∧ VRL (iceAll W) x.2 x.1 ∧ Typed C e x.2 ∧ x.2.all flat = true := by
          intro i hi
          have h1 := hel i hi
          rw [hce] at h1
          have h2 : ∃ y, elems[i]? = some y := ⟨_, List.getElem?_eq_getElem (by omega)⟩
          obtain ⟨y, hy⟩ := h2
          rw [hy, Option.bind_eq_some_iff] at h1
          obtain ⟨cs', h3, h4⟩ := h1
          obtain ⟨cs0, h5, h6, h7⟩ := ih e cs' y he h4
          exact ⟨(cs', cs0), h3, h5, h6, h7⟩
        obtain ⟨M, hM, hp⟩ := pick_list len each
        let L := M.map (·.2)
        have hL : L.length = len := by simp [L, hM]
        have memL : ∀ x ∈ L, ∃ (i : Nat) (y : List Value × List Value), M[i]? = some y ∧ y.2 = x := by
          intro x hx
          simp only [L, List.mem_map] at hx
          obtain ⟨y, hy, rfl⟩ := hx
          obtain ⟨i, hi⟩ := List.getElem?_of_mem hy
          exact ⟨i, y, hi, rfl⟩
        have hsz : ∀ x ∈ L, x.length = (C.ty e).size := by
          intro x hx
          obtain ⟨i, y, hi, rfl⟩ := memL x hx
          obtain ⟨h1, h2, _⟩ := hp i y hi
          rw [h2.1]
          exact (World.cells?_some h1).2.1
        have hty : ∀ x ∈ L, Typed C e x := by
          intro x hx
          obtain ⟨i, y, hi, rfl⟩ := memL x hx
          exact (hp i y hi).2.2.1
        have hfl : L.flatten.all flat = true := by
          rw [List.all_eq_true]
          intro v hv
          rw [List.mem_flatten] at hv
          obtain ⟨x, hx, hv⟩ := hv
          obtain ⟨i, y, hi, rfl⟩ := memL x hx
          have := (hp i y hi).2.2.2
          rw [List.all_eq_true] at this
          exact this v hv
        have cell : ∀ (j : Nat) v, L.flatten[j]? = some v → ∃ v', W.cell? (a.add j) = some v' ∧ VR (iceAll W) v v' := by
          intro j v hv
          obtain ⟨x, h1, h2⟩ := flatten_get hn L hsz j v hv
          simp only [L, List.getElem?_map, Option.map_eq_some_iff] at h1
          obtain ⟨y, h3, rfl⟩ := h1
          obtain ⟨h4, h5, _⟩ := hp _ y h3
          obtain ⟨v', h6, h7⟩ := h5.get h2
          refine ⟨v', ?_, h7⟩
          have h8 := (World.cells?_some h4).2.2 (j % (C.ty e).size) (Nat.mod_lt _ hn)
          rw [h6] at h8
          rw [← h8]
          congr 1
          have : j / (C.ty e).size * (C.ty e).size + j % (C.ty e).size = j := by
            have := Nat.div_add_mod j (C.ty e).size
            rw [Nat.mul_comm] at this
            exact this
          rw [addr_add2, this]
        have fin : VR (iceAll W) (roS L.length L.flatten) (.slice (some a) len cap) := by
          rw [hL]
          rcases Nat.eq_zero_or_pos len with h0 | h0
          · have : L = [] := List.eq_nil_of_length_eq_zero (by omega)
            rw [this, h0]
            exact .ro0 _ _ trivial
          · have hfl0 : 0 < L.flatten.length := by
              rw [flatten_length L hsz, hL]
              exact Nat.mul_pos h0 hn
            obtain ⟨v', h1, _⟩ := cell 0 _ (List.getElem?_eq_getElem hfl0)
            obtain ⟨hsp0, _⟩ := iceAll_cell h1
            have ha : ∃ g o, a = ⟨g, o, none⟩ := by
              have hsp0 : a.spot = none := hsp0
              cases a with
              | mk bl of sp => simp only at hsp0; subst hsp0; exact ⟨bl, of, rfl⟩
            obtain ⟨g, o, rfl⟩ := ha
            have hadd : ∀ j, (⟨g, o, none⟩ : Addr).add j = ⟨g, o + j, none⟩ := by
              intro j
              unfold Addr.add
              split
              · rename_i hj; simp_all
              · rfl
            have hc : ∃ c, (iceAll W).fz g = some c := by
              obtain ⟨_, c, h2, _⟩ := iceAll_cell h1
              rw [hadd] at h2
              exact ⟨c, h2⟩
            obtain ⟨c, hc⟩ := hc
            have at' : ∀ (j : Nat) v, L.flatten[j]? = some v → ∃ v', c[o + j]? = some v' ∧ VR (iceAll W) v v' := by
              intro j v hv
              obtain ⟨v', h1, h2⟩ := cell j v hv
              obtain ⟨_, c', h3, h4⟩ := iceAll_cell h1
              rw [hadd] at h3 h4
              rw [hc] at h3
              cases h3
              exact ⟨v', h4, h2⟩
            refine .ro len L.flatten.toArray g o cap c hc (.inr ?_) hl ?_ (by simpa using hfl)
            · obtain ⟨v', h2, _⟩ := at' (L.flatten.length - 1) _ (List.getElem?_eq_getElem (by omega))
              have := (Array.getElem?_eq_some_iff.1 h2).1
              rw [List.size_toArray]
              omega
            · intro i v v' h1 h2
              obtain ⟨u, h3, h4⟩ := at' i v (by simpa using h1)
              rw [h2] at h3
              cases h3
              rw [iceAll_bare]
              exact h4
        exact ⟨[roS L.length L.flatten], .cons fin .nil, .slice t e L hd (by omega) hty hsz, rfl⟩
    · rename_i fs hd
      simp only [Bool.and_eq_true, List.all_eq_true] at hgt
      obtain ⟨gs, hu, hfs⟩ := under_struct hC hd
      obtain ⟨xs, n, hf, _, hlen, hxs, hpart⟩ := DataW.trod_struct hu h
      cases hf
      have hct := cellsOf_ty hC hd rfl
      rw [hct] at hlen
      have parts : ∀ p ∈ fs, ∃ cs0, VRL (iceAll W) cs0 ((cs.drop p.1).take (C.ty p.2).size) ∧ Typed C p.2 cs0 ∧ cs0.all flat = true := by
        intro p hp
        rw [← hfs, List.mem_map] at hp
        obtain ⟨f, hf, rfl⟩ := hp
        obtain ⟨i, hi⟩ := List.getElem?_of_mem hf
        have hi : gs[i]? = some f := by simpa using hi
        have h1 := hpart i f hi
        have h2 : ∃ y, xs[i]? = some y := ⟨_, List.getElem?_eq_getElem (by have := (Array.getElem?_eq_some_iff.1 hi).1; omega)⟩
        obtain ⟨y, hy⟩ := h2
        rw [hy] at h1
        have hl' : f.type ∈ l := by
          have := hgt.1 (f.offset, f.type) (by rw [← hfs, List.mem_map]; exact ⟨f, hf, rfl⟩)
          simpa using this
        have hoe : isOther (C.ty f.type).d = false := by
          have hge := hg
          unfold goodB at hge
          rw [List.all_eq_true] at hge
          have := hge _ hl'
          split at this <;> simp_all [isOther]
        rw [cellsOf_ty hC (t := f.type) rfl hoe] at h1
        exact ih _ _ y hl' h1
      -- the parts, one behind the other
      have glue : ∀ (fs' : List (Nat × Nat)) (o : Nat), (∀ p ∈ fs', p ∈ fs) → tiles C fs' o (C.ty t).size = true → ∃ cs0, VRL (iceAll W) cs0 (cs.drop o) ∧ cs0.all flat = true ∧ ∀ p ∈ fs', o ≤ p.1 ∧ Typed C p.2 ((cs0.drop (p.1 - o)).take (C.ty p.2).size) := by
        intro fs'
        induction fs' with
        | nil =>
          intro o _ ht'
          simp only [tiles, beq_iff_eq] at ht'
          refine ⟨[], ?_, rfl, by simp⟩
          rw [ht', ← hlen, List.drop_length]
          exact .nil
        | cons p fs' ih' =>
          intro o hsub ht'
          obtain ⟨off, t'⟩ := p
          simp only [tiles, Bool.and_eq_true, beq_iff_eq] at ht'
          obtain ⟨rfl, ht'⟩ := ht'
          obtain ⟨c1, r1, ty1, f1⟩ := parts (off, t') (hsub _ (List.mem_cons_self ..))
          obtain ⟨c2, r2, f2, p2⟩ := ih' (off + (C.ty t').size) (fun q hq => hsub q (List.mem_cons_of_mem _ hq)) ht'
          have hle : off + (C.ty t').size ≤ (C.ty t).size := by
            clear p2 r2 f2 ih' parts hsub
            revert ht'
            generalize off + (C.ty t').size = o'
            clear ty1 r1 f1
            induction fs' generalizing o' with
            | nil => intro h; simp only [tiles, beq_iff_eq] at h; omega
            | cons q fs'' ih'' =>
              intro h
              obtain ⟨oq, tq⟩ := q
              simp only [tiles, Bool.and_eq_true, beq_iff_eq] at h
              have := ih'' _ h.2
              omega
          have hc1 : c1.length = (C.ty t').size := by
            rw [r1.1]
            simp only [List.length_take, List.length_drop]
            omega
          refine ⟨c1 ++ c2, ?_, by rw [List.all_append, f1, f2]; rfl, ?_⟩
          · have : cs.drop off = (cs.drop off).take (C.ty t').size ++ cs.drop (off + (C.ty t').size) := by
              rw [← List.drop_drop, List.take_append_drop]
            rw [this]
            exact r1.append r2
          · intro q hq
            rw [List.mem_cons] at hq
            rcases hq with rfl | hq
            · refine ⟨Nat.le_refl _, ?_⟩
              rw [Nat.sub_self, List.drop_zero, List.take_left' hc1]
              exact ty1
            · obtain ⟨q1, q2⟩ := p2 q hq
              refine ⟨by omega, ?_⟩
              have : (c1 ++ c2).drop (q.1 - off) = c2.drop (q.1 - (off + (C.ty t').size)) := by
                rw [List.drop_append, List.drop_eq_nil_of_le (by omega), List.nil_append]
                congr 1
                omega
              rw [this]
              exact q2
      obtain ⟨cs0, g1, g2, g3⟩ := glue fs 0 (fun p hp => hp) hgt.2
      rw [List.drop_zero] at g1
      refine ⟨cs0, g1, .struct t fs cs0 hd (by rw [g1.1]; exact hlen) (fun p hp => ?_), g2⟩
      have := (g3 p hp).2
      rw [Nat.sub_zero] at this
      exact this
    · cases hgt

/-- A value of a type. -/
def TypedV (C : Cfg) (t : Nat) (a : Value) : Prop := match (C.ty t).d with
  | .struct _ => ∃ cs, a = .agg cs ∧ Typed C t cs.toList
  | _ => Typed C t [a]

theorem read_arg {l : List Nat} (hg : goodB C l = true) {t : Nat} (ht : t ∈ l) {r : Reach} {b0 : Nat} {v : Value} {d : DataW H} {ps : List MemPlace} (hval : Value.okWide C.P W r b0 t v) (h : DataW.Trod enc C.P W base spare held t v d ps) :
    ∃ a, VR (iceAll W) a v ∧ TypedV C t a := by
  obtain ⟨fuel, hf⟩ := h
  obtain ⟨cs0, h1, h2, h3⟩ := read hC hg fuel t _ _ ht hf
  have hgt := hg
  unfold goodB at hgt
  rw [List.all_eq_true] at hgt
  have hgt := hgt t ht
  have flat1 : ∀ {u : Value}, v = u → u.cells.toList = [u] → ∃ a, VR (iceAll W) a v ∧ Typed C t [a] := by
    intro u e hu
    subst e
    rw [hu] at h1
    match cs0, h1, h2 with
    | [a], h1, h2 => exact ⟨a, h1.head, h2⟩
    | [], h1, _ => exact absurd h1.1 (by simp)
    | _ :: _ :: _, h1, _ => exact absurd h1.1 (by simp)
  split at hgt
  · rename_i q hd
    obtain ⟨n, rfl⟩ := WideShapes.okWide_int (under_int hC hd) hval
    simpa only [TypedV, hd] using flat1 rfl rfl
  · rename_i hd
    obtain ⟨n, rfl⟩ := WideShapes.okWide_bool (under_bool hC hd) hval
    simpa only [TypedV, hd] using flat1 rfl rfl
  · rename_i hd
    obtain ⟨n, rfl⟩ := WideShapes.okWide_string (under_str hC hd) hval
    simpa only [TypedV, hd] using flat1 rfl rfl
  · rename_i e hd
    obtain ⟨n, m, k, rfl⟩ := WideShapes.okWide_slice (under_slice hC hd) hval
    simpa only [TypedV, hd] using flat1 rfl rfl
  · rename_i fs hd
    obtain ⟨gs, hu, _⟩ := under_struct hC hd
    have : ∃ cs, v = .agg cs := by
      simp only [Value.okWide, hu] at hval
      obtain ⟨cs, e, _⟩ := hval
      exact ⟨cs, e⟩
    obtain ⟨cs, rfl⟩ := this
    refine ⟨.agg cs0.toArray, ?_, ?_⟩
    · have h1 : VRL (iceAll W) cs0 cs.toList := h1
      have := h1.agg
      simpa using this
    · simp only [TypedV, hd]
      exact ⟨cs0.toArray, rfl, by simpa using h2⟩
  · cases hgt
end
end Go.Ab

namespace Go.Ab
open Go.RowKit

/-! ## A law that returns true, at all arguments of its types -/

def TypedAll (C : Cfg) : List Nat → List Value → Prop
  | [], [] => True
  | t :: ts, a :: as => TypedV C t a ∧ TypedAll C ts as
  | _, _ => False

section
variable {C : Cfg} (hC : CfgOK C)
include hC
variable {H : Type} {enc : TypeId × Value → H} {W : World} {base : Nat} {spare : Nat → Bool} {held : Bool}

theorem read_args {l : List Nat} (hg : goodB C l = true) {r : Reach} {b0 : Nat} : ∀ {ts : List Nat} {vs : List Value} {ds : List (DataW H)} {ps : List MemPlace}, (∀ t ∈ ts, t ∈ l) → (∀ (j : Nat) t v, ts[j]? = some t → vs[j]? = some v → Value.okWide C.P W r b0 t v) →
    DataW.TrodAll enc C.P W base spare held ts vs ds ps → ∃ as, VRL (iceAll W) as vs ∧ TypedAll C ts as
  | [], vs, ds, ps, _, _, h => by
    obtain ⟨rfl, _, _⟩ := ChangeShapes.trodAll_nil h
    exact ⟨[], .nil, trivial⟩
  | t :: ts, vs, ds, ps, hl, hval, h => by
    obtain ⟨v, vs', d, ds', p, q, rfl, rfl, rfl, h1, h2⟩ := ChangeShapes.trodAll_cons h
    obtain ⟨a, r1, t1⟩ := read_arg hC hg (hl t (List.mem_cons_self ..)) (hval 0 t v rfl rfl) h1
    obtain ⟨as, r2, t2⟩ := read_args hg (fun x hx => hl x (List.mem_cons_of_mem _ hx)) (fun j t v h1 h2 => hval (j + 1) t v h1 h2) h2
    exact ⟨a :: as, .cons r1 r2, t1, t2⟩

omit hC in
theorem frz_bool {m : Mem} {v0 : Value} {b : Bool} {ns : List Nat} (h : frz 64 m v0 = some (.bool b, ns)) : v0 = .bool b := by
  unfold frz at h
  split at h <;> first | (cases h; rfl) | (cases h; done) | skip
  all_goals (repeat' (split at h)) <;> first | (cases h; done) | (simp [roS, roP] at h; done) | skip

/-- The law's call: true, and nothing that was there has turned. -/
theorem law_calls (h0 : C.G = 0) {f : FuncId} {ts : List Nat} (hF : ∀ as, TypedAll C ts as → Fz C f as (.bool true)) {l : List Nat} (hg : goodB C l = true) (hts : ts.all l.contains = true) {r : Reach} {b0 : Nat} {args : Array Value} {ds : List (DataW H)} {ps : List MemPlace}
    (hval : ∀ (j : Nat) t v, ts[j]? = some t → args.toList[j]? = some v → Value.okWide C.P W r b0 t v) (h : DataW.TrodAll enc C.P W base spare held ts args.toList ds ps) :
    Calls C.P f args W fun e W' => e = .returned (.bool true) ∧ Below W.heap.size W W' := by
  rw [List.all_eq_true] at hts
  obtain ⟨as, r, ty⟩ := read_args hC hg (fun t ht => by simpa using hts t ht) hval h
  obtain ⟨v0, m2, ns, hcon, hfr⟩ := hF as ty
  have hv0 := frz_bool hfr
  subst hv0
  refine (hcon.2.2 W.heap.size (iceAll W) W args (iceAll_rep _ W) (fun g hg => by omega) (Nat.le_refl _) r (fun n _ _ => rfl)).mono ?_
  rintro e W' ⟨v', ι', rfl, A, rv⟩
  cases rv
  refine ⟨rfl, A.os, A.tape, A.output, A.size, fun k hk => A.frame k hk fun n l b _ hb => ?_⟩
  simp at hb
end

section
variable {H : Type} {enc : TypeId × Value → H} {P : Program} {W W' : World}

/-- The arguments read as they did. -/
theorem trodAll_below (hl : laidOutB P = true) (hb : Below W.heap.size W W') : ∀ {ts : List TypeId} {vs : List Value} {ds : List (DataW H)} {ps : List MemPlace}, ts.all (fun t => P.readableRec t && decide (t < P.types.size)) = true → DataW.TrodAll enc P W 0 (fun _ => true) true ts vs ds ps →
    DataW.TrodAll enc P W' 0 (fun b => decide (b < W.heap.size)) true ts vs ds ps
  | [], vs, ds, ps, _, h => by
    obtain ⟨rfl, rfl, rfl⟩ := ChangeShapes.trodAll_nil h
    rfl
  | t :: ts, vs, ds, ps, ht, h => by
    obtain ⟨v, vs', d, ds', p, q, rfl, rfl, rfl, h1, h2⟩ := ChangeShapes.trodAll_cons h
    simp only [List.all_cons, Bool.and_eq_true, decide_eq_true_eq] at ht
    refine ⟨p, q, ?_, trodAll_below hl hb ht.2 h2, rfl⟩
    exact Below.trod hl ht.1.1 ht.1.2 h1 hb (by
      obtain ⟨m, hm⟩ := h1
      exact DataW.trod_lt m _ _ _ hm)
end
end Go.Ab

namespace Go.Ab

/-! ## Structs and lists of lists -/

def cellV (v : Value) (i : Nat) : Value :=
  match v with
  | .agg cs => cs.toList.getD i .nilFunc
  | .iface _ (.tuple cs) => cs.toList.getD i .nilFunc
  | _ => .nilFunc

abbrev bssV (r : List (List Int)) : Value := roS r.length (r.map (intsV .u8))
def bssD (v : Value) : List (List Int) := (cellsS v).map intsD

@[simp] theorem map_intsD (k : IntKind) (r : List (List Int)) : List.map (intsD ∘ intsV k) r = r := by
  conv => rhs; rw [← List.map_id r]
  congr 1
  funext x
  simp
@[simp] theorem bssD_bssV (r : List (List Int)) : bssD (bssV r) = r := by simp [bssD, bssV]
@[simp] theorem cellsS_bssV (r : List (List Int)) : cellsS (bssV r) = r.map (intsV .u8) := by simp [bssV]
@[simp] theorem lenS_bssV (r : List (List Int)) : lenS (bssV r) = r.length := rfl
@[simp] theorem all_fixd_ints (k : IntKind) (r : List (List Int)) : (r.map (intsV k)).all fixd = true := by simp [fixd, intsV, roS]
@[simp] theorem all_inert_ints (k : IntKind) (r : List (List Int)) : (r.map (intsV k)).all inert = true := by simp [inert, intsV, roS]

structure LineT where
  r : List (List Int)
  e : List Int
  lit : Bool
  br : Int

def LineT.cells (l : LineT) : List Value := [bssV l.r, intsV .u8 l.e, .bool l.lit, .int .i64 l.br]
abbrev lineV (l : LineT) : Value := .agg #[bssV l.r, intsV .u8 l.e, .bool l.lit, .int .i64 l.br]
abbrev lineP (l : LineT) : Value := roP [bssV l.r, intsV .u8 l.e, .bool l.lit, .int .i64 l.br]
def lineD (v : Value) : LineT := ⟨bssD (cellV v 0), intsD (cellV v 1), boolOf (cellV v 2), intOf (cellV v 3)⟩
@[simp] theorem line_eta (l : LineT) : (⟨l.r, l.e, l.lit, l.br⟩ : LineT) = l := rfl
@[simp] theorem lineD_lineV (l : LineT) : lineD (lineV l) = l := by simp [lineD, lineV, cellV]
@[simp] theorem lineD_lineP (l : LineT) : lineD (lineP l) = l := by simp [lineD, lineP, roP, cellV]

@[simp] theorem lineD_agg (a b c d : Value) : lineD (.agg #[a, b, c, d]) = ⟨bssD a, intsD b, boolOf c, intOf d⟩ := rfl
@[simp] theorem lineD_tuple (n : Nat) (a b c d : Value) : lineD (.iface n (.tuple #[a, b, c, d])) = ⟨bssD a, intsD b, boolOf c, intOf d⟩ := rfl

/-- One of a list of lists, loaded. -/
theorem load_bss {r : List (List Int)} {j s : Nat} (hs : 0 < s) (h : j < r.length) :
    List.take 1 (List.take s (List.drop j (r.map (intsV .u8)).toArray.toList)).toArray.toList = [roS (lenS ((List.take s (List.drop j (r.map (intsV .u8)).toArray.toList)).toArray.toList.getD 0 .nilFunc)) (cellsS ((List.take s (List.drop j (r.map (intsV .u8)).toArray.toList)).toArray.toList.getD 0 .nilFunc))] := by
  obtain ⟨s, rfl⟩ : ∃ s', s = s' + 1 := ⟨s - 1, by omega⟩
  have : List.drop j (r.map (intsV .u8)) = intsV .u8 r[j] :: List.drop (j + 1) (r.map (intsV .u8)) := by
    rw [List.drop_eq_getElem_cons (by simpa using h)]
    simp
  simp [this, intsV]

theorem loaded_bss {r : List (List Int)} {j s : Nat} (hs : 0 < s) (h : j < r.length) : (List.take s (List.drop j (r.map (intsV .u8)).toArray.toList)).toArray.toList.getD 0 .nilFunc = intsV .u8 (r.getD j []) := by
  obtain ⟨s, rfl⟩ : ∃ s', s = s' + 1 := ⟨s - 1, by omega⟩
  simp only [List.getD_eq_getElem?_getD]
  rw [List.getElem?_take_of_lt (by omega), List.getElem?_drop]
  simp [h]

theorem condP_tt {b : Bool} {p q : Option Prop} (hb : b = true) (h : Holds p) : Holds (condP b p q) := condP_intro (fun _ => h) (fun g => by rw [hb] at g; cases g)
theorem condP_ff {b : Bool} {p q : Option Prop} (hb : b = false) (h : Holds q) : Holds (condP b p q) := condP_intro (fun g => by rw [hb] at g; cases g) (fun _ => h)
theorem vint_tt {k : IntKind} {b : Bool} {x y z : Int} (hb : b = true) (h : Value.int k x = Value.int k z) : Value.int k (bif b then x else y) = Value.int k z := by rw [hb]; exact h
theorem vint_ff {k : IntKind} {b : Bool} {x y z : Int} (hb : b = false) (h : Value.int k y = Value.int k z) : Value.int k (bif b then x else y) = Value.int k z := by rw [hb]; exact h
theorem vbool_tt {b x y z : Bool} (hb : b = true) (h : Value.bool x = Value.bool z) : Value.bool (bif b then x else y) = Value.bool z := by rw [hb]; exact h
theorem vbool_ff {b x y z : Bool} (hb : b = false) (h : Value.bool y = Value.bool z) : Value.bool (bif b then x else y) = Value.bool z := by rw [hb]; exact h
theorem in_range {i n : Nat} (h : i < n) : 0 ≤ (i : Int) ∧ (i : Int) < (n : Int) := by omega
theorem veq_goal {a b : Value} (h : a = b) : a = b := h
theorem le_goal {a b : Nat} (h : a ≤ b) : a ≤ b := h
theorem fixd_goal {l : List Value} {a b : Nat} (h : l.all fixd = true) (h' : a ≤ b) : l.all fixd = true ∧ a ≤ b := ⟨h, h'⟩
theorem idx_lt {i n : Nat} (h : i < n) : decide ((i : Int) < (n : Int)) = true := by simp; omega
theorem idx_ge {i n : Nat} (h : n ≤ i) : decide ((i : Int) < (n : Int)) = false := by simp; omega
theorem wrap_succ {i : Nat} (h : i < 4611686018427387904) : IntKind.i64.wrap ((i : Int) + 1) = ((i + 1 : Nat) : Int) := by rw [wrap64 (by omega) (by omega)]; rfl
end Go.Ab

namespace Go.Ab

/-- A block that is filled place by place. -/
theorem fill_step {l : List Value} {i n : Nat} {z : Value} (hn : l.length = n) (h : i < n) :
    splice (l.take i ++ List.replicate (n - i) z) i [l[i]'(by omega)] = l.take (i + 1) ++ List.replicate (n - (i + 1)) z := by
  have h1 : (l.take i).length = i := by simp; omega
  have h2 : List.replicate (n - i) z = z :: List.replicate (n - (i + 1)) z := by
    rw [show n - i = (n - (i + 1)) + 1 by omega, List.replicate_succ]
  have h3 : (l.take i ++ List.replicate (n - i) z).take i = l.take i := by
    rw [List.take_append_of_le_length (by omega), List.take_of_length_le (by omega)]
  have h4 : (l.take i ++ List.replicate (n - i) z).drop (i + 1) = List.replicate (n - (i + 1)) z := by
    rw [h2, List.drop_append, List.drop_eq_nil_of_le (by omega), List.nil_append, h1, Nat.add_sub_cancel_left]
    rfl
  unfold splice
  rw [h3, List.length_singleton, h4, List.take_succ_eq_append_getElem (by omega)]

theorem fill_len {l : List Value} {i n : Nat} {z : Value} (hn : l.length = n) (h : i ≤ n) : (l.take i ++ List.replicate (n - i) z).length = n := by
  simp; omega

theorem fill_end {l : List Value} {n : Nat} {z : Value} (hn : l.length = n) : l.take n ++ List.replicate (n - n) z = l := by
  simp [← hn]

theorem zeros_one (n : Nat) (z : Value) : (List.replicate n [z]).flatten = List.replicate n z := by
  induction n with
  | zero => rfl
  | succ n ih => rw [List.replicate_succ, List.flatten_cons, ih, List.replicate_succ]; rfl

theorem all_inert_fill {l : List Value} {i n : Nat} {z : Value} (h : l.all inert = true) (hz : inert z = true) : (l.take i ++ List.replicate n z).all inert = true := by
  rw [List.all_eq_true] at *
  intro x hx
  rw [List.mem_append] at hx
  rcases hx with hx | hx
  · exact h x (List.mem_of_mem_take hx)
  · rw [List.eq_of_mem_replicate hx]; exact hz
end Go.Ab
namespace Go.Ab
theorem vif_ff {b : Bool} {n n' : Nat} {xs ys : Array Value} {v : Value} (hb : b = false) (h : Value.iface n' (.agg ys) = v) : Value.iface (bif b then n else n') (.agg (bif b then xs else ys)) = v := by rw [hb]; exact h
theorem vif_tt {b : Bool} {n n' : Nat} {xs ys : Array Value} {v : Value} (hb : b = true) (h : Value.iface n (.agg xs) = v) : Value.iface (bif b then n else n') (.agg (bif b then xs else ys)) = v := by rw [hb]; exact h
theorem vif_same {b : Bool} {n : Nat} {xs : Array Value} : Value.iface (bif b then n else n) (.agg (bif b then xs else xs)) = Value.iface n (.agg xs) := by cases b <;> rfl

/-- A block of cells, filled up to a place. -/
def fillB (l : List Value) (i : Nat) (z : Value) : Blk := ⟨l.take i ++ List.replicate (l.length - i) z, 1, true, true⟩

theorem fillB_done {l : List Value} {i : Nat} {z : Value} (h : l.length ≤ i) : (fillB l i z).cells = l := by
  unfold fillB
  simp only
  rw [List.take_of_length_le h, Nat.sub_eq_zero_of_le h]
  simp

theorem fillB_all {l : List Value} {i n : Nat} {z : Value} (h : l.length ≤ i) (hn : n = l.length) : List.take (n * 1) (List.drop 0 (fillB l i z).cells) = l := by
  rw [fillB_done h, List.drop_zero, List.take_of_length_le (by omega)]

theorem fillB_goal {l : List Value} {i n : Nat} {z : Value} (h : l.length ≤ i) (hn : n = l.length) (hf : l.all fixd = true) : (List.take (n * 1) (List.drop 0 (fillB l i z).cells)).all fixd = true ∧ 0 + n * 1 ≤ (fillB l i z).cells.length := by
  refine ⟨by rw [fillB_all h hn]; exact hf, ?_⟩
  rw [fillB_done h]
  omega

theorem fillB_len {l : List Value} {i : Nat} {z : Value} (h : i ≤ l.length) : (fillB l i z).cells.length = l.length := by
  unfold fillB; simp; omega

theorem fillB_set {l : List Value} {i : Nat} {z x : Value} (h : i < l.length) (hx : l[i] = x) : splice (fillB l i z).cells (0 + i * 1) [x] = (fillB l (i + 1) z).cells := by
  rw [Nat.zero_add, Nat.mul_one, ← hx]
  exact fill_step rfl h

theorem fillB_lay {l : List Value} {i : Nat} {z x : Value} (h : i < l.length) (hx : l[i] = x) : lay (fillB l i z).cells (0 + i * 1) [x] = (fillB l (i + 1) z).cells := by
  rw [lay_eq _ _ _ (by rw [fillB_len (by omega)]; simp; omega)]
  exact fillB_set h hx

theorem fillB_new (n : Nat) (l : List Value) (z : Value) (h : n = l.length) : (List.replicate n [z]).flatten = (fillB l 0 z).cells := by
  rw [zeros_one, h]
  simp [fillB]

theorem fillB_inert {l : List Value} {i : Nat} {z : Value} (h : l.all inert = true) (hz : inert z = true) : (fillB l i z).cells.all inert = true := all_inert_fill h hz
end Go.Ab

namespace Go.Ab

/-! ## What the types say of the values -/

section
variable {C : Cfg}

theorem typed_int {t : Nat} {q : IntKind} {a : Value} (h : Typed C t [a]) (ht : (C.ty t).d = .int q) : ∃ n, a = .int q n ∧ (Lit.int q n).wf = true := by
  generalize hx : [a] = cs at h
  cases h with
  | int _ q' n hd hw => rw [ht] at hd; cases hd; cases hx; exact ⟨n, rfl, hw⟩
  | bool _ b hd => rw [ht] at hd; cases hd
  | str _ s hd => rw [ht] at hd; cases hd
  | slice _ e L hd => rw [ht] at hd; cases hd
  | struct _ fs _ hd => rw [ht] at hd; cases hd

theorem typed_bool {t : Nat} {a : Value} (h : Typed C t [a]) (ht : (C.ty t).d = .bool) : ∃ b, a = .bool b := by
  generalize hx : [a] = cs at h
  cases h with
  | int _ q' n hd hw => rw [ht] at hd; cases hd
  | bool _ b hd => cases hx; exact ⟨b, rfl⟩
  | str _ s hd => rw [ht] at hd; cases hd
  | slice _ e L hd => rw [ht] at hd; cases hd
  | struct _ fs _ hd => rw [ht] at hd; cases hd

theorem typed_str {t : Nat} {a : Value} (h : Typed C t [a]) (ht : (C.ty t).d = .str) : ∃ s : ByteArray, a = .string s ∧ s.size ≤ maxLen := by
  generalize hx : [a] = cs at h
  cases h with
  | int _ q' n hd hw => rw [ht] at hd; cases hd
  | bool _ b hd => rw [ht] at hd; cases hd
  | str _ s hd hs => cases hx; exact ⟨s, rfl, hs⟩
  | slice _ e L hd => rw [ht] at hd; cases hd
  | struct _ fs _ hd => rw [ht] at hd; cases hd

theorem typed_slice {t e : Nat} {a : Value} (h : Typed C t [a]) (ht : (C.ty t).d = .slice e) : ∃ L : List (List Value), a = roS L.length L.flatten ∧ L.length ≤ maxLen ∧ (∀ x ∈ L, Typed C e x) ∧ ∀ x ∈ L, x.length = (C.ty e).size := by
  generalize hx : [a] = cs at h
  cases h with
  | int _ q' n hd hw => rw [ht] at hd; cases hd
  | bool _ b hd => rw [ht] at hd; cases hd
  | str _ s hd => rw [ht] at hd; cases hd
  | slice _ e' L hd h1 h2 h3 => rw [ht] at hd; cases hd; cases hx; exact ⟨L, rfl, h1, h2, h3⟩
  | struct _ fs _ hd => rw [ht] at hd; cases hd

theorem typed_struct {t : Nat} {fs : List (Nat × Nat)} {cs : List Value} (h : Typed C t cs) (ht : (C.ty t).d = .struct fs) : cs.length = (C.ty t).size ∧ ∀ p ∈ fs, Typed C p.2 ((cs.drop p.1).take (C.ty p.2).size) := by
  cases h with
  | int _ q' n hd hw => rw [ht] at hd; cases hd
  | bool _ b hd => rw [ht] at hd; cases hd
  | str _ s hd => rw [ht] at hd; cases hd
  | slice _ e L hd => rw [ht] at hd; cases hd
  | struct _ fs' _ hd h1 h2 => rw [ht] at hd; cases hd; exact ⟨h1, h2⟩

/-- Lists out of lists of one. -/
theorem lists_of {α : Type} {p : α → Prop} {f : α → Value} : ∀ (L : List (List Value)), (∀ x ∈ L, ∃ y, x = [f y] ∧ p y) → ∃ l : List α, L.flatten = l.map f ∧ l.length = L.length ∧ ∀ y ∈ l, p y
  | [], _ => ⟨[], rfl, rfl, by simp⟩
  | x :: L, h => by
    obtain ⟨y, rfl, hy⟩ := h x (List.mem_cons_self ..)
    obtain ⟨l, h1, h2, h3⟩ := lists_of L (fun z hz => h z (List.mem_cons_of_mem _ hz))
    refine ⟨y :: l, by simp [h1], by simp [h2], fun z hz => ?_⟩
    rw [List.mem_cons] at hz
    rcases hz with rfl | hz
    · exact hy
    · exact h3 z hz

def wfI (k : IntKind) (n : Int) : Prop := (Lit.int k n).wf = true

theorem typed_ints {t e : Nat} {k : IntKind} {a : Value} (h : Typed C t [a]) (ht : (C.ty t).d = .slice e) (he : (C.ty e).d = .int k) (hs : (C.ty e).size = 1) : ∃ l : List Int, a = intsV k l ∧ l.length ≤ maxLen ∧ ∀ n ∈ l, wfI k n := by
  obtain ⟨L, rfl, h1, h2, h3⟩ := typed_slice h ht
  obtain ⟨l, e1, e2, e3⟩ := lists_of (p := wfI k) (f := Value.int k) L (fun x hx => by
    have hl := h3 x hx
    rw [hs] at hl
    match x, hl with
    | [v], _ =>
      obtain ⟨n, rfl, hn⟩ := typed_int (h2 _ hx) he
      exact ⟨n, rfl, hn⟩)
  exact ⟨l, by rw [e1, ← e2], by omega, e3⟩

theorem typed_bss {t e i : Nat} {a : Value} (h : Typed C t [a]) (ht : (C.ty t).d = .slice e) (he : (C.ty e).d = .slice i) (hi : (C.ty i).d = .int .u8) (hs : (C.ty e).size = 1) (hs' : (C.ty i).size = 1) : ∃ l : List (List Int), a = bssV l ∧ l.length ≤ maxLen ∧ ∀ x ∈ l, x.length ≤ maxLen ∧ ∀ n ∈ x, wfI .u8 n := by
  obtain ⟨L, rfl, h1, h2, h3⟩ := typed_slice h ht
  obtain ⟨l, e1, e2, e3⟩ := lists_of (p := fun x : List Int => x.length ≤ maxLen ∧ ∀ n ∈ x, wfI .u8 n) (f := intsV .u8) L (fun x hx => by
    have hl := h3 x hx
    rw [hs] at hl
    match x, hl with
    | [v], _ =>
      obtain ⟨n, rfl, hn⟩ := typed_ints (h2 _ hx) he hi hs'
      exact ⟨n, rfl, hn⟩)
  exact ⟨l, by rw [e1, ← e2], by omega, e3⟩
end
end Go.Ab
namespace Go.Ab
/-! Bytes as strings. -/
def b8 (n : Int) : UInt8 := UInt8.ofNat n.toNat
def bstr (d : List Int) : ByteArray := ⟨(d.map b8).toArray⟩
theorem bytesOf_u8 : ∀ (d : List Int), bytesOf (d.map (Value.int .u8)) = some (d.map b8)
  | [] => rfl
  | n :: d => by simp only [List.map_cons, bytesOf, bytesOf_u8 d]; rfl
theorem map_byteOf (d : List Int) : (d.map (Value.int .u8)).map byteOf = d.map b8 := by
  rw [List.map_map]; rfl
theorem wfI_u8 {n : Int} (h : wfI .u8 n) : 0 ≤ n ∧ n ≤ 255 := by
  simp only [wfI, Lit.wf, Bool.and_eq_true, decide_eq_true_eq] at h
  have e1 : IntKind.u8.min = 0 := rfl
  have e2 : IntKind.u8.max = 255 := rfl
  omega
theorem b8_inj {a b : Int} (ha : wfI .u8 a) (hb : wfI .u8 b) (h : b8 a = b8 b) : a = b := by
  have ha := wfI_u8 ha
  have hb := wfI_u8 hb
  have h1 : (b8 a).toNat = (b8 b).toNat := by rw [h]
  simp only [b8, UInt8.toNat_ofNat'] at h1
  omega
theorem map_b8_inj : ∀ {a b : List Int}, (∀ n ∈ a, wfI .u8 n) → (∀ n ∈ b, wfI .u8 n) → a.map b8 = b.map b8 → a = b
  | [], [], _, _, _ => rfl
  | [], _ :: _, _, _, h => by simp at h
  | _ :: _, [], _, _, h => by simp at h
  | x :: a, y :: b, ha, hb, h => by
    simp only [List.map_cons, List.cons.injEq] at h
    rw [b8_inj (ha x (List.mem_cons_self ..)) (hb y (List.mem_cons_self ..)) h.1, map_b8_inj (fun n hn => ha n (List.mem_cons_of_mem _ hn)) (fun n hn => hb n (List.mem_cons_of_mem _ hn)) h.2]
end Go.Ab
namespace Go.Ab
theorem conv_goal (d : List Int) : (d.map (Value.int .u8)).toArray.size = d.length ∧ bytesOf (d.map (Value.int .u8)).toArray.toList = some ((d.map (Value.int .u8)).toArray.toList.map byteOf) := by
  rw [List.toList_toArray, bytesOf_u8, map_byteOf]
  exact ⟨by simp, rfl⟩
theorem conv_val (d : List Int) : Value.string ⟨((d.map (Value.int .u8)).toArray.toList.map byteOf).toArray⟩ = Value.string (bstr d) := by
  rw [List.toList_toArray, map_byteOf]; rfl
theorem bstr_eq {a b : List Int} (ha : ∀ n ∈ a, wfI .u8 n) (hb : ∀ n ∈ b, wfI .u8 n) : ((bstr a).toList == (bstr b).toList) = (a == b) := by
  unfold bstr
  rw [ByteArray.toList_mk, ByteArray.toList_mk]
  rw [Bool.eq_iff_iff]
  simp only [beq_iff_eq]
  exact ⟨map_b8_inj ha hb, fun h => by rw [h]⟩
end Go.Ab
namespace Go.Ab
/-! A list of numbers that grows in a block of its own. -/
def outB (k : IntKind) (l : List Int) : Blk := ⟨l.map (.int k), 1, true, true⟩
theorem outB_goal {k : IntKind} {l : List Int} {n : Nat} (hn : n = l.length) : (List.take (n * 1) (List.drop 0 (outB k l).cells)).all fixd = true ∧ 0 + n * 1 ≤ (outB k l).cells.length := by
  subst hn
  simp only [outB, Nat.mul_one, List.drop_zero, Nat.zero_add]
  rw [List.take_of_length_le (by simp)]
  exact ⟨all_fixd_int _ _, by simp⟩
theorem outB_val (k : IntKind) (l : List Int) : Value.iface l.length (.agg (List.take (l.length * 1) (List.drop 0 (outB k l).cells)).toArray) = intsV k l := by
  simp [outB, List.take_of_length_le]
theorem outB_cells (k : IntKind) (l : List Int) (x : List Value) (y : List Int) (hx : x = y.map (.int k)) : List.take (l.length * 1) (List.drop 0 (outB k l).cells) ++ x = (outB k (l ++ y)).cells := by
  subst hx
  simp [outB, List.take_of_length_le]
theorem outB_inert (k : IntKind) (l : List Int) : (outB k l).cells.all inert = true := all_inert_int _ _
end Go.Ab

namespace Go.Ab

/-! ## Structs of whole numbers are compared field by field -/

theorem run_part_int {P : Program} {w : World} {e : TypeId} {k : IntKind} (hu : P.underlying e = some (.int k)) {xs : Array Value} {off : Nat} {v : Value} (hx : xs[off]? = some v) : (_root_.Go.part e xs off).run P w = .ok v w := by
  simp [_root_.Go.part, isAgg, run_underlying hu, hx]

theorem eqF_sound {C : Cfg} (hty : ∀ t, isOther (C.ty t).d = false → TyFits C.P t (C.ty t)) {w : World} {d : Nat} : ∀ (gs : List Field) (xs ys : Array Value) (b : Bool), (∀ f ∈ gs, f.name ≠ "_") → eqF C (gs.map fun f => (f.offset, f.type)) xs ys = some b → (Op.eqFields (d + 1) xs ys gs).run C.P w = .ok b w
  | [], xs, ys, b, _, h => by
    simp only [List.map_nil, eqF] at h
    cases h
    simp [Op.eqFields]
  | f :: gs, xs, ys, b, hn, h => by
    simp only [List.map_cons, eqF] at h
    split at h
    · rename_i q k x k' y hd hx hy
      split at h
      · rename_i hk
        subst hk
        split at h
        · rename_i r hr
          cases h
          obtain ⟨i, dd, z, h1, h2, h3, _⟩ := (hty f.type (by rw [hd]; rfl)).ex
          rw [hd] at h3
          cases dd <;> simp [TD.of] at h3
          subst h3
          have ih := eqF_sound hty (w := w) (d := d) gs xs ys r (fun g hg => hn g (List.mem_cons_of_mem _ hg)) hr
          simp only [Op.eqFields, if_pos (hn f (List.mem_cons_self ..)), Sem.run_bind, run_part_int h2 hx, run_part_int h2 hy, Result.andThen_ok, run_equalIn_int w d f.type _ _ x y h2, Sem.run_ite, ih]
          cases (x == y) <;> simp
        · cases h
      · cases h
    · cases h

/-- What has to be shown of a struct type, by evaluation. -/
def eqB (P : Program) (t : Nat) : Bool := !P.eqGuardType P.depth t && !P.stoodInHeld t && (P.fieldsOf t).toList.all (fun f => f.name != "_") && (match P.underlying t with
  | some (.struct _) => true
  | _ => false)

theorem eqs_ok {C : Cfg} (hty : ∀ t, isOther (C.ty t).d = false → TyFits C.P t (C.ty t)) (h : C.eqs.all (eqB C.P) = true) : ∀ t fs, t ∈ C.eqs → (C.ty t).d = .struct fs → ∀ xs ys b w, eqF C fs xs ys = some b →
    (∀ op x y, (eqGuard op t x y (.agg xs) (.agg ys)).run C.P w = .ok () w) ∧ (Op.equal t (.agg xs) (.agg ys)).run C.P w = .ok b w := by
  intro t fs ht hd xs ys b w hb
  rw [List.all_eq_true] at h
  have ht := h t ht
  unfold eqB at ht
  simp only [Bool.and_eq_true, Bool.not_eq_true', List.all_eq_true, bne_iff_ne, ne_eq] at ht
  obtain ⟨⟨⟨h1, h2⟩, h3⟩, h4⟩ := ht
  refine ⟨fun op x y => run_eqGuard_agg w op t x y xs ys h1, ?_⟩
  obtain ⟨i, dd, z, e1, e2, e3, _⟩ := (hty t (by rw [hd]; rfl)).ex
  rw [hd] at e3
  cases dd <;> simp [TD.of] at e3
  rename_i gs
  have hf : C.P.fieldsOf t = gs := by unfold Program.fieldsOf; rw [e2]
  have hu : C.P.underlying t = some (.struct (C.P.fieldsOf t)) := by rw [hf]; exact e2
  show (Op.equalIn (9999 + 1) t (.agg xs) (.agg ys)).run C.P w = .ok b w
  rw [run_equalIn_agg w 9999 t xs ys hu h2]
  rw [hf] at h3 ⊢
  refine eqF_sound hty (d := 9998) gs.toList xs ys b (fun f hfm => h3 f hfm) ?_
  rw [← hb, ← e3]
end Go.Ab
