/- Part of an own evaluator of Go code on numbered blocks, and of the proof that the machine does what it says; each theorem carries its own conditions. -/
import Derived.Test.YtkoahogalplhhaaAb28
set_option linter.unusedVariables false
set_option linter.unusedSimpArgs false
namespace Go.Ab

/-! ## A region, its guarded operations as if they went -/

/-- The value of a temporary, if its guard lets it be made. -/
structure Tn where
  t : Tmp
  key : Nat × Bool
  v : Value

def guardT (ops : List Oper) (j : Nat) : Option Tmp :=
  match ops[j]? with
  | some g => g.dst
  | none => none

def wantK (ops : List Oper) (T : Tm) (key : Nat × Bool) : Option Bool :=
  match guardT ops key.1 with
  | some t => match T.lookup t with
    | some (.bool b) => some (b == key.2)
    | some (.tuple _) => some false
    | _ => none
  | none => none

theorem wantedA_key {ops : List Oper} {T : Tm} {o : Oper} {key : Nat × Bool} (h : o.guard = some key) : wantedA ops T o = wantK ops T key := by
  unfold wantedA wantK guardT
  rw [h]
  obtain ⟨j, want⟩ := key
  simp only
  cases ops[j]? with
  | none => rfl
  | some g =>
    simp only
    cases g.dst <;> rfl

/-- Whether it goes, and what else went then. -/
def keyVal (ops : List Oper) (T : Tm) (S : List Tn) : Nat → Nat × Bool → Option (Bool × List (Nat × Bool))
  | 0, _ => none
  | k + 1, (j, want) => match guardT ops j with
    | none => none
    | some tg => match T.lookup tg with
      | some (.bool b) => some (b == want, [(j, want)])
      | some _ => none
      | none => match S.find? (fun e => e.t == tg) with
        | some ⟨_, key', .bool b⟩ => match keyVal ops T S k key' with
          | some (c, ks) => some (c && (b == want), (j, want) :: ks)
          | none => none
        | _ => none

def envOf (S : List Tn) (ok : Nat × Bool → Bool) (T : Tm) : Tm := (S.filter (fun e => ok e.key)).map (fun e => (e.t, e.v)) ++ T

structure Taint (ops : List Oper) (Te T : Tm) (S : List Tn) : Prop where
  sub : Sub T Te
  val : ∀ e ∈ S, ∃ b, wantK ops Te e.key = some b ∧ (b = true → Te.lookup e.t = some e.v) ∧ (b = false → Te.lookup e.t = some (.tuple #[]))

theorem keyVal_sound {ops : List Oper} {Te T : Tm} {S : List Tn} (I : Taint ops Te T S) : ∀ (k : Nat) (key : Nat × Bool) (c : Bool) (ks : List (Nat × Bool)), keyVal ops T S k key = some (c, ks) →
    wantK ops Te key = some c ∧ (c = true → ∀ k' ∈ ks, wantK ops Te k' = some true) := by
  intro k
  induction k with
  | zero => intro key c ks h; simp [keyVal] at h
  | succ k ih =>
    intro key c ks h
    obtain ⟨j, want⟩ := key
    unfold keyVal at h
    split at h
    · cases h
    · rename_i tg hg
      split at h
      · rename_i b hb
        cases h
        have : wantK ops Te (j, want) = some (b == want) := by
          unfold wantK
          simp only [hg, I.sub _ _ hb]
        refine ⟨this, fun hc k' hk => ?_⟩
        simp only [List.mem_singleton] at hk
        subst hk
        rw [this, hc]
      · cases h
      · split at h
        · rename_i t1 key' b hf
          split at h
          · rename_i c1 ks1 hk1
            cases h
            have hm := List.mem_of_find?_eq_some hf
            have ht : t1 = tg := by simpa using List.find?_some hf
            subst ht
            obtain ⟨h1, h2⟩ := ih _ _ _ hk1
            obtain ⟨b', e1, e2, e3⟩ := I.val _ hm
            simp only at e1 e2 e3
            rw [h1] at e1
            cases e1
            have : wantK ops Te (j, want) = some (c1 && (b == want)) := by
              unfold wantK
              simp only [hg]
              cases c1 with
              | true => rw [e2 rfl]; simp
              | false => rw [e3 rfl]; simp
            refine ⟨this, fun hc k' hk => ?_⟩
            rw [List.mem_cons] at hk
            rcases hk with rfl | hk
            · rw [this, hc]
            · simp only [Bool.and_eq_true] at hc
              exact h2 hc.1 k' hk
          · cases h
        · cases h

theorem env_sub {ops : List Oper} {Te T : Tm} {S : List Tn} (I : Taint ops Te T S) {ok : Nat × Bool → Bool} (hok : ∀ e ∈ S, ok e.key = true → wantK ops Te e.key = some true) : Sub (envOf S ok T) Te := by
  intro t v h
  unfold envOf at h
  rw [List.lookup_append] at h
  cases h1 : List.lookup t ((S.filter fun e => ok e.key).map fun e => (e.t, e.v)) with
  | none =>
    rw [h1] at h
    exact I.sub t v (by simpa using h)
  | some u =>
    rw [h1] at h
    simp only [Option.some_or, Option.some.injEq] at h
    subst h
    have hm : (t, u) ∈ (S.filter fun e => ok e.key).map fun e => (e.t, e.v) := by
      revert h1
      generalize ((S.filter fun e => ok e.key).map fun e => (e.t, e.v)) = l
      intro h1
      induction l with
      | nil => simp at h1
      | cons p l ih =>
        obtain ⟨a, b⟩ := p
        rw [List.lookup_cons] at h1
        split at h1
        · rename_i e
          have e : t = a := by simpa using e
          subst e
          cases h1
          exact List.mem_cons_self ..
        · exact List.mem_cons_of_mem _ (ih h1)
    simp only [List.mem_map, List.mem_filter] at hm
    obtain ⟨e, ⟨h2, h3⟩, h4⟩ := hm
    cases h4
    obtain ⟨b, e1, e2, _⟩ := I.val e h2
    rw [hok e h2 h3] at e1
    cases e1
    exact e2 rfl

section
variable (C : Cfg) (K : Spec) (L : List Inst) (ops : List Oper)

/-- One operation where these guards let go. -/
def sOne (T : Tm) (S : List Tn) (ks : List (Nat × Bool)) (m : Mem) (o : Oper) : Option (List Prop × Value × Mem × Option Nat × Bool) :=
  match o.op with
  | .pick (.tmp tc) a b => match (envOf S ks.contains T).lookup tc with
    | some (.bool bc) => match ev C (envOf S (fun k => ks.contains k || (k.2 && guardT ops k.1 == some tc)) T) a, ev C (envOf S (fun k => ks.contains k || (!k.2 && guardT ops k.1 == some tc)) T) b with
      | some (.bool x), some (.bool y) => some ([], .bool (bif bc then x else y), m, none, false)
      | _, _ => none
    | _ => none
  | _ => sOp C K L (envOf S ks.contains T) m o

def addS (S : List Tn) (d : Option Tmp) (key : Nat × Bool) (v : Value) : List Tn :=
  match d with
  | some t => ⟨t, key, v⟩ :: S
  | none => S
def okD (S : List Tn) (d : Option Tmp) : Bool := d.isNone || S.all fun e => guardT ops e.key.1 != d && some e.t != d
def newT (T : Tm) (d : Option Tmp) : Bool :=
  match d with
  | some t => (T.lookup t).isNone
  | none => true

def under (c : Bool) : List Prop → List Prop
  | [] => []
  | ps => [c = true → AllP ps]

/-- A value under a plainer name. -/
def plain (D : List (Tmp × Value)) (d : Option Tmp) (v : Value) : List Prop × Value :=
  match d with
  | some t => match D.lookup t with
    | some w => ([v = w], w)
    | none => ([], v)
  | none => ([], v)

theorem plain_sound {D : List (Tmp × Value)} {d : Option Tmp} {v : Value} (h : AllP (plain D d v).1) : (plain D d v).2 = v := by
  unfold plain at h ⊢
  cases d with
  | none => rfl
  | some t =>
    simp only at h ⊢
    cases hD : D.lookup t with
    | none => rfl
    | some w =>
      rw [hD] at h
      exact (AllP.singl h).symm

variable (D : List (Tmp × Value))

def sStep (T : Tm) (S : List Tn) (m : Mem) (o : Oper) : Option (List Prop × Tm × List Tn × Mem × Option Nat × Bool × Bool) :=
  if okD ops S o.dst = true then
    match o.guard with
    | none => match sOne C K L ops T S [] m o with
      | some (ps, v, m', n, ch) => match plain D o.dst v with
        | (qs, w) => some (ps ++ qs, putD T o.dst w, S, m', n, ch, false)
      | none => none
    | some key => match keyVal ops T S 8 key with
      | some (c, ks) => match sOne C K L ops T S ks m o with
        | some (ps, v, _, n, ch) => if ch = false ∧ cls C o ≠ .alloc ∧ (newT T o.dst && (o.dst.isNone || guardT ops key.1 != o.dst)) = true then (match plain D o.dst v with
          | (qs, w) => some (under c (ps ++ qs), T, addS S o.dst key w, m, n, false, true)) else none
        | none => none
      | none => none
  else none

def sOps : List Oper → Tm → List Tn → Mem → Option (List Prop × Tm × Mem × List Ev × Bool × Bool)
  | [], T, _, m => some ([], T, m, [], false, false)
  | o :: os, T, S, m => match sStep C K L ops D T S m o with
    | none => none
    | some (p, T1, S1, m1, n, ch, ta) => match sOps os T1 S1 m1 with
      | none => none
      | some (q, T2, m2, E, ch2, ta2) => some (p ++ q, T2, m2, ⟨m, m1, n⟩ :: E, ch || ch2, ta || ta2)
end

section
variable {C : Cfg} {K : Spec} {L : List Inst} {ops : List Oper} {D : List (Tmp × Value)} {Te T : Tm} {S : List Tn} {m : Mem}

theorem sOne_sound (I : Taint ops Te T S) {ks : List (Nat × Bool)} (hks : ∀ k ∈ ks, wantK ops Te k = some true) {o : Oper} {ps : List Prop} {v : Value} {m' : Mem} {n : Option Nat} {ch : Bool}
    (h : sOne C K L ops T S ks m o = some (ps, v, m', n, ch)) (hp : AllP ps) : aOp C (callK K L) Te m o = some (v, m', n) ∧ (ch = false → cls C o ≠ .alloc → m' = m) := by
  have base : ∀ k, ks.contains k = true → wantK ops Te k = some true := fun k hk => hks k (by simpa using hk)
  unfold sOne at h
  split at h
  · rename_i tc a b ho
    split at h
    · rename_i bc hbc
      split at h
      · rename_i x y ha hb
        cases h
        have hc := env_sub I (ok := ks.contains) (fun e _ h => base _ h) _ _ hbc
        have wk : ∀ k : Nat × Bool, guardT ops k.1 = some tc → wantK ops Te k = some (bc == k.2) := by
          intro k hk
          unfold wantK
          rw [hk]
          simp only [hc]
        have : aOp C (callK K L) Te m o = some (.bool (bif bc then x else y), m, none) := by
          have hcl : cls C o = .pure := by unfold cls; rw [ho]
          have hec : ev C Te (.tmp tc) = some (.bool bc) := hc
          unfold aOp
          rw [hcl]
          simp only [pv, ho, hec]
          cases bc with
          | true =>
            have := ev_mono (env_sub I (ok := fun k => ks.contains k || (k.2 && guardT ops k.1 == some tc)) (fun e _ h => by
              simp only [Bool.or_eq_true, Bool.and_eq_true, beq_iff_eq] at h
              rcases h with h | ⟨h1, h2⟩
              · exact base _ h
              · rw [wk _ h2, h1]; rfl)) ha
            simp only [this]
            rfl
          | false =>
            have := ev_mono (env_sub I (ok := fun k => ks.contains k || (!k.2 && guardT ops k.1 == some tc)) (fun e _ h => by
              simp only [Bool.or_eq_true, Bool.and_eq_true, beq_iff_eq, Bool.not_eq_true'] at h
              rcases h with h | ⟨h1, h2⟩
              · exact base _ h
              · rw [wk _ h2, h1]; rfl)) hb
            simp only [this]
            rfl
        exact ⟨this, fun _ _ => rfl⟩
      · cases h
    · cases h
  · obtain ⟨h1, h2⟩ := sOp_sound h hp
    exact ⟨aOp_mono (env_sub I (ok := ks.contains) (fun e _ h => base _ h)) h1, h2⟩

theorem lookup_put {T : Tm} {d : Option Tmp} {v : Value} {t : Tmp} (h : d ≠ some t) : (putD T d v).lookup t = T.lookup t := by
  cases d with
  | none => rfl
  | some d =>
    simp only [putD, List.lookup_cons]
    have : (t == d) = false := by
      simp only [beq_eq_false_iff_ne, ne_eq]
      rintro rfl
      exact h rfl
    rw [this]

theorem wantK_put {T : Tm} {d : Option Tmp} {v : Value} {key : Nat × Bool} (h : d = none ∨ guardT ops key.1 ≠ d) : wantK ops (putD T d v) key = wantK ops T key := by
  unfold wantK
  cases hg : guardT ops key.1 with
  | none => rfl
  | some t =>
    simp only
    rw [lookup_put]
    rcases h with h | h
    · rw [h]; simp
    · rw [hg] at h
      exact fun e => h e.symm

theorem okD_key {d : Option Tmp} (h : okD ops S d = true) {e : Tn} (he : e ∈ S) : (d = none ∨ guardT ops e.key.1 ≠ d) ∧ d ≠ some e.t := by
  unfold okD at h
  simp only [Bool.or_eq_true, Option.isNone_iff_eq_none, List.all_eq_true, Bool.and_eq_true, bne_iff_ne, ne_eq] at h
  rcases h with h | h
  · exact ⟨.inl h, by rw [h]; simp⟩
  · exact ⟨.inr (h e he).1, fun g => (h e he).2 g.symm⟩

theorem new_sub {T Te : Tm} {d : Option Tmp} {v : Value} (hn : newT T d = true) (h : Sub T Te) : Sub T (putD Te d v) := by
  intro t u hu
  rw [lookup_put]
  · exact h t u hu
  · rintro rfl
    simp only [newT, hu] at hn
    cases hn

theorem Taint.keep (I : Taint ops Te T S) {d : Option Tmp} (hd : okD ops S d = true) {v : Value} {e : Tn} (he : e ∈ S) :
    ∃ b, wantK ops (putD Te d v) e.key = some b ∧ (b = true → (putD Te d v).lookup e.t = some e.v) ∧ (b = false → (putD Te d v).lookup e.t = some (.tuple #[])) := by
  obtain ⟨b, e1, e2, e3⟩ := I.val e he
  have h2 := okD_key hd he
  refine ⟨b, by rw [wantK_put h2.1]; exact e1, ?_, ?_⟩
  · rw [lookup_put h2.2]; exact e2
  · rw [lookup_put h2.2]; exact e3

theorem under_true {c : Bool} {ps : List Prop} (h : AllP (under c ps)) (hc : c = true) : AllP ps := by
  cases ps with
  | nil => exact trivial
  | cons p ps => exact h.singl hc

theorem sStep_sound (I : Taint ops Te T S) {o : Oper} {ps : List Prop} {T1 : Tm} {S1 : List Tn} {m1 : Mem} {n : Option Nat} {ch ta : Bool} (h : sStep C K L ops D T S m o = some (ps, T1, S1, m1, n, ch, ta)) (hp : AllP ps) :
    ∃ Te1 n1, aStep C (callK K L) ops Te m o = some (Te1, m1, n1) ∧ Taint ops Te1 T1 S1 ∧ (ch = false → cls C o ≠ .alloc → m1 = m) ∧ (ta = false → n1 = n) := by
  unfold sStep at h
  split at h
  · rename_i hok
    split at h
    · rename_i hg
      split at h
      · rename_i ps0 v m' n' ch' hs
        have hpl := plain_sound (D := D) (d := o.dst) (v := v)
        generalize plain D o.dst v = pl at h hpl
        obtain ⟨qs, u⟩ := pl
        cases h
        have hpq := hp.append
        have hpl : u = v := hpl hpq.2
        subst hpl
        obtain ⟨h1, h2⟩ := sOne_sound I (ks := []) (fun k hk => by cases hk) hs hpq.1
        refine ⟨putD Te o.dst u, n, ?_, ⟨I.sub.put, fun e he => I.keep hok he⟩, h2, fun _ => rfl⟩
        unfold aStep wantedA
        simp only [hg, h1]
      · cases h
    · rename_i key hg
      split at h
      · rename_i c ks hk
        split at h
        · rename_i ps0 v m' n' ch' hs
          split at h
          · rename_i hc
            have hpl := plain_sound (D := D) (d := o.dst) (v := v)
            generalize plain D o.dst v = pl at h hpl
            obtain ⟨qs, u⟩ := pl
            cases h
            obtain ⟨k1, k2⟩ := keyVal_sound I _ _ _ _ hk
            have hw : wantedA ops Te o = some c := by rw [wantedA_key hg]; exact k1
            have hkey : newT T o.dst = true ∧ (o.dst = none ∨ guardT ops key.1 ≠ o.dst) := by
              have := hc.2.2
              simp only [Bool.and_eq_true, Bool.or_eq_true, Option.isNone_iff_eq_none, bne_iff_ne, ne_eq] at this
              exact this
            -- what is kept of the taints
            have taint : ∀ x, (c = true → x = u) → (c = false → x = .tuple #[]) → Taint ops (putD Te o.dst x) T (addS S o.dst key u) := by
              intro x hx hx'
              refine ⟨new_sub hkey.1 I.sub, fun e he => ?_⟩
              unfold addS at he
              cases hd : o.dst with
              | none =>
                rw [hd] at he
                exact I.val e he
              | some t =>
                rw [hd] at he hok
                simp only [List.mem_cons] at he
                rcases he with rfl | he
                · refine ⟨c, ?_, ?_, ?_⟩
                  · rw [wantK_put (by rw [hd] at hkey; exact hkey.2)]; exact k1
                  · intro h; simp [putD, hx h]
                  · intro h; simp [putD, hx' h]
                · exact I.keep hok he
            cases c with
            | false =>
              refine ⟨putD Te o.dst (.tuple #[]), none, ?_, taint _ (fun h => by cases h) (fun _ => rfl), fun _ _ => rfl, fun h => by cases h⟩
              unfold aStep
              simp only [hw]
            | true =>
              have hpq := (under_true hp rfl).append
              have hpl : u = v := hpl hpq.2
              subst hpl
              obtain ⟨h1, h2⟩ := sOne_sound I (k2 rfl) hs hpq.1
              have hm := h2 hc.1 hc.2.1
              subst hm
              refine ⟨putD Te o.dst u, n, ?_, taint _ (fun _ => rfl) (fun h => by cases h), fun _ _ => rfl, fun h => by cases h⟩
              unfold aStep
              simp only [hw, h1]
          · cases h
        · cases h
      · cases h
  · cases h

theorem sOps_sound : ∀ {os : List Oper} {Te T : Tm} {S : List Tn} {m : Mem} (_ : Taint ops Te T S) {ps : List Prop} {T' : Tm} {m' : Mem} {E : List Ev} {ch ta : Bool}, sOps C K L ops D os T S m = some (ps, T', m', E, ch, ta) → AllP ps →
    ∃ E' Te', aOps C (callK K L) ops os Te m = some (E', Te', m') ∧ Sub T' Te' ∧ (ch = false → ∀ (i : Nat) o e, os[i]? = some o → E'[i]? = some e → cls C o = .eff → e.after = e.before) ∧ (ta = false → E' = E)
  | [], Te, T, S, m, I, ps, T', m', E, ch, ta, h, _ => by
    simp only [sOps] at h
    cases h
    exact ⟨[], Te, rfl, I.sub, fun _ i o e h => by simp at h, fun _ => rfl⟩
  | o :: os, Te, T, S, m, I, ps, T', m', E, ch, ta, h, hp => by
    simp only [sOps] at h
    split at h
    · cases h
    · rename_i p T1 S1 m1 n ch1 ta1 hs
      split at h
      · cases h
      · rename_i q T2 m2 E2 ch2 ta2 hr
        cases h
        have hpq := hp.append
        obtain ⟨Te1, n1, a1, a2, a3, a4⟩ := sStep_sound I hs hpq.1
        obtain ⟨E', Te', b1, b2, b3, b4⟩ := sOps_sound a2 hr hpq.2
        refine ⟨⟨m, m1, n1⟩ :: E', Te', by simp only [aOps, a1, b1], b2, fun hch i o' e h1 h2 h3 => ?_, fun hta => ?_⟩
        · simp only [Bool.or_eq_false_iff] at hch
          cases i with
          | zero =>
            simp only [List.getElem?_cons_zero, Option.some.injEq] at h1 h2
            subst h1 h2
            exact a3 hch.1 (by rw [h3]; simp)
          | succ i =>
            simp only [List.getElem?_cons_succ] at h1 h2
            exact b3 hch.2 i o' e h1 h2 h3
        · simp only [Bool.or_eq_false_iff] at hta
          rw [b4 hta.2, a4 hta.1]

theorem pairs_eff {p : Nat × Nat} (h : p ∈ pairsOf C ops) : ∃ o, ops[p.2]? = some o ∧ cls C o = .eff := by
  unfold pairsOf at h
  simp only [List.mem_flatMap] at h
  obtain ⟨⟨i, oi⟩, hi, hp⟩ := h
  simp only at hp
  split at hp
  · simp only [List.mem_filterMap] at hp
    obtain ⟨⟨j, oj⟩, hj, hpj⟩ := hp
    have key : cls C oj = .eff ∧ (i, j) = p := by
      revert hpj
      simp only
      intro hpj
      by_cases hc : cls C oj = .eff
      · refine ⟨hc, ?_⟩
        split at hpj <;> simp_all
      · simp [hc] at hpj
    obtain ⟨hc, rfl⟩ := key
    refine ⟨oj, ?_, hc⟩
    unfold numbered at hj
    obtain ⟨k, hk, e⟩ := List.getElem_of_mem hj
    simp only [List.getElem_zip, List.getElem_range, Prod.mk.injEq] at e
    obtain ⟨rfl, rfl⟩ := e
    rw [List.getElem?_eq_getElem]
  · cases hp

/-- The region's static side. -/
def regOk (C : Cfg) (N : Nat) (ops : List Oper) (draw : Bool) : Bool := ops.all (fun o => o.dst.all (· < N)) && (!draw || drawOk C ops)

/-- What has to be seen to beyond the operations. -/
def calm (C : Cfg) (ops : List Oper) (E : List Ev) (draw ch ta : Bool) : Option (List Prop) :=
  match draw && ch with
  | false => some []
  | true => match ta with
    | false => some [Stable C ops E]
    | true => none

theorem RunF.region (hC : CfgOK C) (h0 : C.G = 0) (hK : SpecOK C K) (hL : ∀ i ∈ L, Con C i.f i.args i.m i.v i.m') {fn : Func} {id : Nat} {opsA : Array Oper} {draw : Bool} {r : List Item} {T T' : Tm} {m m' : Mem} {v : Value} {ps qs : List Prop} {E : List Ev} {ch ta : Bool}
    (hreg : regOk C fn.ntmps opsA.toList draw = true) (hs : sOps C K L opsA.toList D opsA.toList T [] m = some (ps, T', m', E, ch, ta)) (hq : calm C opsA.toList E draw ch ta = some qs) (hp : AllP ps) (hp' : AllP qs)
    (h : RunF C fn r T' m' v) : RunF C fn (.code (.region id opsA draw) :: r) T m v := by
  obtain ⟨v0, m2, ns, h1, h2⟩ := h
  obtain ⟨E', Te', a1, a2, a3, a4⟩ := sOps_sound (Te := T) ⟨Sub.refl T, fun e he => by cases he⟩ hs hp
  refine ⟨v0, m2, ns, ?_, h2⟩
  unfold regOk at hreg
  simp only [Bool.and_eq_true, Bool.or_eq_true, Bool.not_eq_true'] at hreg
  refine Run.region hC (callK_ok h0 hK hL) (T1 := Te') (m1 := m') ?_ (h1.mono a2)
  unfold aRegion
  rw [if_pos hreg.1, a1]
  simp only
  cases draw with
  | false => rfl
  | true =>
    have hd : drawOk C opsA.toList = true := by simpa using hreg.2
    rw [if_pos rfl, if_pos]
    refine ⟨hd, ?_⟩
    cases ch with
    | true =>
      cases ta with
      | true => cases hq
      | false =>
        simp only [calm, Bool.true_and] at hq
        cases hq
        rw [a4 rfl]
        exact hp'.singl
    | false =>
      intro p hp
      obtain ⟨o, ho, he⟩ := pairs_eff hp
      unfold stab
      cases hE1 : E'[p.1]? with
      | none => trivial
      | some a =>
        cases hE2 : E'[p.2]? with
        | none => trivial
        | some b =>
          simp only
          cases a.name with
          | none => trivial
          | some n =>
            simp only
            rw [a3 rfl p.2 o b ho hE2 he]
end
end Go.Ab
