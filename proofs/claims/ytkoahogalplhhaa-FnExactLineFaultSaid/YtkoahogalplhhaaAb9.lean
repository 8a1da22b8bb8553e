/- Part of an own evaluator of Go code on numbered blocks, and of the proof that the machine does what it says; each theorem carries its own conditions. -/
import Derived.Test.YtkoahogalplhhaaAb8
set_option linter.unusedVariables false
set_option linter.unusedSimpArgs false
namespace Go.Ab

/-! ## What comes ahead of what -/

theorem testBit_fold (acc : List Nat) (i : Nat) : ∀ (es : List Edge) (s : Nat), (es.foldl (fun s e => if Region.binds .any e then s ||| (2 ^ e.on ||| acc.getD e.on 0) else s) s).testBit i = true →
    s.testBit i = true ∨ ∃ e ∈ es, Region.binds .any e = true ∧ (e.on = i ∨ (acc.getD e.on 0).testBit i = true)
  | [], s, h => .inl h
  | e :: es, s, h => by
    simp only [List.foldl_cons] at h
    rcases testBit_fold acc i es _ h with h | ⟨e', h1, h2, h3⟩
    · split at h
      · rename_i hb
        rw [Nat.testBit_or, Nat.testBit_or, Nat.testBit_two_pow] at h
        simp only [Bool.or_eq_true, decide_eq_true_eq] at h
        rcases h with h | h | h
        · exact .inl h
        · exact .inr ⟨e, by simp, hb, .inl h⟩
        · exact .inr ⟨e, by simp, hb, .inr h⟩
      · exact .inl h
    · exact .inr ⟨e', by simp [h1], h2, h3⟩

theorem masks_length : ∀ (os : List Oper) (acc : List Nat), (masks os acc).length = acc.length + os.length
  | [], acc => by simp [masks]
  | o :: os, acc => by simp [masks, masks_length os]; omega

theorem masks_old : ∀ (os : List Oper) (acc : List Nat) (j : Nat), j < acc.length → (masks os acc).getD j 0 = acc.getD j 0
  | [], acc, j, _ => rfl
  | o :: os, acc, j, h => by
    rw [masks, masks_old os _ j (by simp; omega)]
    simp [List.getD_eq_getElem?_getD, List.getElem?_append_left h]

/-- What is claimed to come ahead does: by an edge, or by an edge and what comes ahead of that. -/
theorem ahead_edge : ∀ (os pre : List Oper) (acc : List Nat), acc.length = pre.length →
    (∀ (i j : Nat), j < pre.length → (acc.getD j 0).testBit i = true → ∃ o e, pre[j]? = some o ∧ e ∈ o.after.toList ∧ Region.binds .any e = true ∧ (e.on = i ∨ (acc.getD e.on 0).testBit i = true)) →
    ∀ (i j : Nat), j < (pre ++ os).length → ((masks os acc).getD j 0).testBit i = true →
      ∃ o e, (pre ++ os)[j]? = some o ∧ e ∈ o.after.toList ∧ Region.binds .any e = true ∧ (e.on = i ∨ ((masks os acc).getD e.on 0).testBit i = true)
  | [], pre, acc, hl, H, i, j, hj, h => by
    simp only [masks, List.append_nil] at h hj ⊢
    exact H i j hj h
  | o :: os, pre, acc, hl, H, i, j, hj, h => by
    have := ahead_edge os (pre ++ [o]) (acc ++ [maskOf acc o.after.toList]) (by simp [hl]) ?_ i j (by simpa using hj) h
    · simpa [masks] using this
    · intro i j hj h
      have lift : ∀ k, (acc.getD k 0).testBit i = true → ((acc ++ [maskOf acc o.after.toList]).getD k 0).testBit i = true := by
        intro k hk
        by_cases hlt : k < acc.length
        · simpa [List.getD_eq_getElem?_getD, List.getElem?_append_left hlt] using hk
        · rw [List.getD_eq_getElem?_getD, List.getElem?_eq_none (by omega)] at hk
          simp at hk
      by_cases hlt : j < pre.length
      · rw [List.getD_eq_getElem?_getD, List.getElem?_append_left (by omega), ← List.getD_eq_getElem?_getD] at h
        obtain ⟨o', e, h1, h2, h3, h4⟩ := H i j hlt h
        refine ⟨o', e, by rw [List.getElem?_append_left hlt]; exact h1, h2, h3, ?_⟩
        rcases h4 with h4 | h4
        · exact .inl h4
        · exact .inr (lift _ h4)
      · have : j = pre.length := by simp at hj; omega
        subst this
        rw [List.getD_eq_getElem?_getD, List.getElem?_append_right (by omega), hl, Nat.sub_self] at h
        simp only [List.getElem?_cons_zero, Option.getD_some] at h
        rcases testBit_fold acc i o.after.toList 0 h with h | ⟨e, h1, h2, h3⟩
        · simp at h
        · refine ⟨o, e, by simp, h1, h2, ?_⟩
          rcases h3 with h3 | h3
          · exact .inl h3
          · exact .inr (lift _ h3)

theorem ahead_sound {ops : List Oper} {i j : Nat} (hj : j < ops.length) (h : ahead (masks ops []) i j = true) :
    ∃ o e, ops[j]? = some o ∧ e ∈ o.after.toList ∧ Region.binds .any e = true ∧ (e.on = i ∨ ahead (masks ops []) i e.on = true) := by
  have := ahead_edge ops [] [] rfl (fun i j hj => by simp at hj) i j (by simpa using hj) h
  simpa [ahead, List.getD_eq_getElem?_getD] using this

theorem numbered_mem {ops : List Oper} {i : Nat} {o : Oper} (h : ops[i]? = some o) : (i, o) ∈ numbered ops := by
  unfold numbered
  have hi := (List.getElem?_eq_some_iff.1 h).1
  rw [List.mem_iff_getElem?]
  refine ⟨i, ?_⟩
  rw [List.getElem?_zip_eq_some]
  exact ⟨by simp [hi], h⟩

section
variable {C : Cfg} {ops : List Oper}

theorem edges_lt (h : drawOk C ops = true) {j : Nat} {o : Oper} (ho : ops[j]? = some o) {e : Edge} (he : e ∈ o.after.toList) (hb : Region.binds .any e = true) : e.on < j := by
  unfold drawOk at h
  simp only [Bool.and_eq_true] at h
  have h1 := h.1.1
  unfold edgesOk at h1
  rw [List.all_eq_true] at h1
  have h2 := h1 _ (numbered_mem ho)
  simp only at h2
  rw [List.all_eq_true] at h2
  have h3 := h2 e he
  simpa [hb] using h3

theorem tmps_apart (h : drawOk C ops = true) {i j : Nat} {p o : Oper} (hp : ops[i]? = some p) (ho : ops[j]? = some o) (hne : i ≠ j) {d : Tmp} (hd : p.dst = some d) :
    o.dst ≠ some d ∧ (d ∈ o.looksAt ops.toArray → if i < j then ahead (masks ops []) i j = true else ahead (masks ops []) j i = true) := by
  unfold drawOk at h
  simp only [Bool.and_eq_true] at h
  have h1 := h.1.2
  unfold tmpsOk at h1
  rw [List.all_eq_true] at h1
  have h2 := h1 _ (numbered_mem ho)
  simp only at h2
  rw [List.all_eq_true] at h2
  have h3 := h2 _ (numbered_mem hp)
  simp only [hd] at h3
  have hne' : (i == j) = false := by simpa using hne
  rw [hne'] at h3
  simp only [Bool.false_or, Bool.and_eq_true, Bool.or_eq_true, Bool.not_eq_true', bne_iff_ne, ne_eq] at h3
  refine ⟨h3.1, fun hm => ?_⟩
  rcases h3.2 with h | h
  · have : (o.looksAt ops.toArray).contains d = true := by simpa using hm
    rw [this] at h
    cases h
  · split at h
    · rename_i hlt; rw [if_pos hlt]; exact h
    · rename_i hlt; rw [if_neg hlt]; exact h

theorem effs_ordered (h : drawOk C ops = true) {i j : Nat} {p o : Oper} (hp : ops[i]? = some p) (ho : ops[j]? = some o) (hlt : i < j) (h1 : cls C p = .eff) (h2 : cls C o = .eff) : ahead (masks ops []) i j = true := by
  unfold drawOk at h
  simp only [Bool.and_eq_true] at h
  have h3 := h.2
  unfold effsOk at h3
  rw [List.all_eq_true] at h3
  have h4 := h3 _ (numbered_mem ho)
  simp only [h2] at h4
  simp only [bne_self_eq_false, Bool.false_or] at h4
  rw [List.all_eq_true] at h4
  have h5 := h4 _ (numbered_mem hp)
  simpa [h1, hlt] using h5

theorem pairs_mem {i j : Nat} {o p : Oper} (ho : ops[i]? = some o) (hp : ops[j]? = some p) (h1 : cls C o = .read) (h2 : cls C p = .eff)
    (h3 : (if j < i then ahead (masks ops []) j i else ahead (masks ops []) i j) = false) : (i, j) ∈ pairsOf C ops := by
  unfold pairsOf
  rw [List.mem_flatMap]
  refine ⟨(i, o), numbered_mem ho, ?_⟩
  simp only [h1, if_true]
  rw [List.mem_filterMap]
  refine ⟨(j, p), numbered_mem hp, ?_⟩
  simp only [h2, true_and, h3, if_true]

/-! ## The states in the order of the text -/

theorem text_of {call : CallF} : ∀ (os : List Oper) (T : Tm) (m : Mem) (E : List Ev) (T2 : Tm) (m2 : Mem), aOps C call ops os T m = some (E, T2, m2) →
    ∃ S : Nat → Tm × Mem, S 0 = (T, m) ∧ S os.length = (T2, m2) ∧
      ∀ (i : Nat) o, os[i]? = some o → ∃ nm, aStep C call ops (S i).1 (S i).2 o = some ((S (i + 1)).1, (S (i + 1)).2, nm) ∧ E[i]? = some ⟨(S i).2, (S (i + 1)).2, nm⟩
  | [], T, m, E, T2, m2, h => by
    simp only [aOps] at h
    cases h
    exact ⟨fun _ => (T, m), rfl, rfl, fun i o ho => by simp at ho⟩
  | o :: os, T, m, E, T2, m2, h => by
    simp only [aOps] at h
    split at h
    · cases h
    · rename_i T1 m1 n1 hs
      split at h
      · cases h
      · rename_i E2 T3 m3 hr
        cases h
        obtain ⟨S, s0, s1, s2⟩ := text_of os T1 m1 E2 T2 m2 hr
        refine ⟨fun i => match i with | 0 => (T, m) | i + 1 => S i, rfl, s1, ?_⟩
        intro i o' ho'
        cases i with
        | zero =>
          simp only [List.getElem?_cons_zero, Option.some.injEq] at ho'
          subst ho'
          refine ⟨n1, ?_, ?_⟩
          · simp only [s0]; exact hs
          · simp [s0]
        | succ i =>
          simp only [List.getElem?_cons_succ] at ho'
          obtain ⟨nm, e1, e2⟩ := s2 i o' ho'
          exact ⟨nm, e1, by simpa using e2⟩

theorem aStep_temps {call : CallF} {T T' : Tm} {m m' : Mem} {o : Oper} {n : Option Nat} (h : aStep C call ops T m o = some (T', m', n)) : ∃ v, T' = putD T o.dst v := by
  unfold aStep at h
  split at h
  · cases h
  · cases h; exact ⟨_, rfl⟩
  · split at h
    · cases h; exact ⟨_, rfl⟩
    · cases h

theorem lookup_putD {T : Tm} {d : Option Tmp} {v : Value} {t : Nat} (h : d ≠ some t) : (putD T d v).lookup t = T.lookup t := by
  cases d with
  | none => rfl
  | some d =>
    have : (t == d) = false := by simp; rintro rfl; exact h rfl
    simp [putD, List.lookup_cons, this]

theorem aStep_mem {call : CallF} {T T' : Tm} {m m' : Mem} {o : Oper} {n : Option Nat} (h : aStep C call ops T m o = some (T', m', n)) (hc : cls C o ≠ .eff) : m' = m ∨ (cls C o = .alloc ∧ ∃ b, m' = m ++ [b]) := by
  unfold aStep at h
  split at h
  · cases h
  · cases h; exact .inl rfl
  · split at h
    · rename_i v m1 n1 ha
      cases h
      unfold aOp at ha
      split at ha
      · split at ha
        · cases ha; exact .inl rfl
        · cases ha
      · split at ha
        · cases ha; exact .inr ⟨‹_›, _, rfl⟩
        · cases ha
      · split at ha
        · cases ha; exact .inl rfl
        · cases ha
      · exact absurd ‹_› hc
    · cases h

end
end Go.Ab
