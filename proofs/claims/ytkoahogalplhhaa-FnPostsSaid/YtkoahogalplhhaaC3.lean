/- Contracts of the laws' helpers over bytes and lines: sz, to, eq. -/
import Derived.Test.YtkoahogalplhhaaC2
namespace Go.Ab
open Go.Proofs
set_option maxRecDepth 100000
set_option linter.unusedVariables false
set_option linter.unusedSimpArgs false

/-- What is left behind lists of so many bytes. -/
def szL : List (List Int) → Int → Int
  | [], left => left
  | x :: xs, left => bif decide (left < x.length) then -1 else szL xs (left - x.length)

theorem ok72 : codeOk CT Try.f72 (Try.f72.body.get rfl) = true := by kernel_rfl
theorem c72 (a : List Int) (left : Int) (hp : a.length ≤ maxLen ∧ 0 ≤ left ∧ left ≤ 1048576) : Fz CT 72 [intsV .u8 a, .int .i64 left] (.int .i64 (bif decide (left < a.length) then -1 else left - a.length)) := by
  obtain ⟨h1, h2, h3⟩ := hp
  have h1 : a.length ≤ 9223372036854775807 := h1
  refine Fz.of_sRun (K := K26) (K3 := Spec3.none) (O := []) (D := []) (k := 400) (H := []) CT_ok rfl K26_ok Spec3OK.none (c := Try.f72.body.get rfl) Try.func72 rfl (Nat.le_of_ble_eq_true rfl) (by decide) rfl ok72 rfl ?_ ?_
  · trivial
  · show Value.int .i64 (bif decide (IntKind.i64.wrap (left - (a.length : Int)) < 0) then -1 else IntKind.i64.wrap (left - (a.length : Int))) = _
    rw [wrap64 (by omega) (by omega)]
    grind
def K72 : Spec := Spec.add K26 72 (fam (fun (p : (List Int) × Int) => [intsV .u8 p.1, .int .i64 p.2]) (fun v => (intsD (v.getD 0 .nilFunc), intOf (v.getD 1 .nilFunc))) (fun (p : (List Int) × Int) => p.1.length ≤ maxLen ∧ 0 ≤ p.2 ∧ p.2 ≤ 1048576) (fun (p : (List Int) × Int) => .int .i64 (bif decide (p.2 < p.1.length) then -1 else p.2 - p.1.length)))
theorem K72_ok : SpecOK CT K72 := SpecOK.add K26_ok (fam_ok fun p hp => c72 p.1 p.2 hp)

theorem ok71 : codeOk CT Try.f71 (Try.f71.body.get rfl) = true := by kernel_rfl
theorem l71 (r : List (List Int)) (hr : r.length ≤ 1048576) (hx : ∀ x ∈ r, x.length ≤ maxLen) : ∀ (n i : Nat) (left : Int), i + n = r.length → 0 ≤ left → left ≤ 1048576 → RunF CT Try.f71 (atLoop Try.f71 0) [(0, bssV r), (1, .int .i64 left), (5, .int .i64 i)] [] (.int .i64 (szL (r.drop i) left)) := by
  intro n
  induction n with
  | zero =>
    intro i left hi h0 h1
    have hb := idx_ge (i := i) (n := r.length) (by omega)
    refine RunF.of_sRun (K := K72) (K3 := Spec3.none) (O := []) (D := []) (H := [.int .i64 0]) CT_ok rfl K72_ok Spec3OK.none (c := Try.f71.body.get rfl) rfl ok71 400 rfl ?_ ?_
    · repeat' (first | refine condP_ff hb ?_ | with_reducible exact holds_none | with_reducible exact all_nil | with_reducible refine holds_some ?_ | with_reducible refine andP_intro ?_ ?_ | with_reducible refine condP_intro (fun h => ?_) (fun h => ?_) | with_reducible refine psP_intro ?_ | with_reducible refine all_append ?_ ?_ | with_reducible refine all_under (fun h => ?_) | with_reducible refine all_one ?_ | with_reducible refine all_cons ?_ ?_)
      all_goals first | exact (rfl : @Eq (List Value) _ _) | with_reducible exact le_goal (Nat.le_of_ble_eq_true rfl) | with_reducible exact fixd_goal rfl (Nat.le_of_ble_eq_true rfl) | (with_reducible refine hit_intro ?_ ?_ <;> (simp; done)) | exact (rfl : @Eq Value _ (Value.iface _ _)) | exact (rfl : @Eq Value _ (Value.agg _)) | (with_reducible refine veq_goal ?_; simp; done) | skip
    · rw [show r.drop i = [] from List.drop_eq_nil_of_le (by omega)]
      exact vint_ff hb rfl
  | succ n ih =>
    intro i left hi h0 h1
    have hlt : i < r.length := by omega
    have hb := idx_lt hlt
    have hm := hx r[i] (List.getElem_mem hlt)
    have hl := loaded_bss (r := r) (j := (i : Int).toNat * (CT.ty 22).size) (s := (CT.ty 22).size) (by decide) (by simpa using hlt)
    have hg : r.getD ((i : Int).toNat * (CT.ty 22).size) [] = r[i] := by simp [hlt]
    rw [hg] at hl
    have hm' : r[i].length ≤ 9223372036854775807 := hm
    refine RunF.of_sRun (K := K72) (K3 := Spec3.none) (O := []) (D := [(21, intsV .u8 r[i]), (23, .int .i64 (bif decide (left < r[i].length) then -1 else left - r[i].length))]) (H := [.int .i64 (szL (r.drop (i + 1)) (left - r[i].length))]) CT_ok rfl K72_ok Spec3OK.none (c := Try.f71.body.get rfl) rfl ok71 400 rfl ?_ ?_
    · repeat' (first | refine condP_tt hb ?_ | with_reducible exact holds_none | with_reducible exact all_nil | with_reducible refine holds_some ?_ | with_reducible refine andP_intro ?_ ?_ | with_reducible refine condP_intro (fun h => ?_) (fun h => ?_) | with_reducible refine psP_intro ?_ | with_reducible refine all_append ?_ ?_ | with_reducible refine all_under (fun h => ?_) | with_reducible refine all_one ?_ | with_reducible refine all_cons ?_ ?_)
      all_goals first | exact (rfl : @Eq (List Value) _ _) | with_reducible exact le_goal (Nat.le_of_ble_eq_true rfl) | with_reducible exact fixd_goal rfl (Nat.le_of_ble_eq_true rfl) | (with_reducible refine hit_intro ?_ ?_ <;> (simp; done)) | exact (rfl : @Eq Value _ (Value.iface _ _)) | exact (rfl : @Eq Value _ (Value.agg _)) | (with_reducible refine veq_goal ?_; simp; done) | skip
      · exact in_range hlt
      · exact load_bss (r := r) (by decide) (by simpa using hlt)
      · rw [hl]; simp
      · refine hit_of (r[i], left) rfl (by simp) ⟨hm, h0, h1⟩
      · cases hd : decide (left < (r[i].length : Int)) with
        | true => rw [hd] at h; simp at h
        | false =>
          have hd' : ¬ left < (r[i].length : Int) := by simpa using hd
          have hih := ih (i + 1) (left - r[i].length) (by omega) (by omega) (by omega)
          (refine RunF.norm0 rfl ?_ hih; (repeat' (first | with_reducible exact simT_nil | refine simT_cons rfl rfl ?_ ?_)); all_goals (try first | with_reducible rfl | with_reducible exact congrArg (Value.int .i64) (wrap_succ (by omega)) | exact (rfl : _ = Value.iface _ _) | exact (rfl : Value.int .i64 0 = _) | (simp; done)))
    · refine vint_tt hb ?_
      rw [List.drop_eq_getElem_cons hlt]
      simp [szL]
      grind
theorem c71 (r : List (List Int)) (left : Int) (hp : r.length ≤ maxLen ∧ (∀ x ∈ r, x.length ≤ maxLen) ∧ 0 ≤ left ∧ left ≤ 1048576) : Fz CT 71 [bssV r, .int .i64 left] (.int .i64 (bif decide (left < r.length) then -1 else szL r (left - r.length))) := by
  obtain ⟨h1, hx, h2, h3⟩ := hp
  have h1 : r.length ≤ 9223372036854775807 := h1
  refine Fz.of_sRun (K := K72) (K3 := Spec3.none) (O := []) (D := [(9, .int .i64 (left - r.length))]) (k := 400) (H := [.int .i64 (szL r (left - r.length))]) CT_ok rfl K72_ok Spec3OK.none (c := Try.f71.body.get rfl) Try.func71 rfl (Nat.le_of_ble_eq_true rfl) (by decide) rfl ok71 rfl ?_ ?_
  · repeat' (first | with_reducible exact holds_none | with_reducible exact all_nil | with_reducible refine holds_some ?_ | with_reducible refine andP_intro ?_ ?_ | with_reducible refine condP_intro (fun h => ?_) (fun h => ?_) | with_reducible refine psP_intro ?_ | with_reducible refine all_append ?_ ?_ | with_reducible refine all_under (fun h => ?_) | with_reducible refine all_one ?_ | with_reducible refine all_cons ?_ ?_)
    all_goals first | exact (rfl : @Eq (List Value) _ _) | with_reducible exact le_goal (Nat.le_of_ble_eq_true rfl) | with_reducible exact fixd_goal rfl (Nat.le_of_ble_eq_true rfl) | (with_reducible refine hit_intro ?_ ?_ <;> (simp; done)) | exact (rfl : @Eq Value _ (Value.iface _ _)) | exact (rfl : @Eq Value _ (Value.agg _)) | (with_reducible refine veq_goal ?_; simp; done) | skip
    · exact congrArg (Value.int .i64) (wrap64 (by omega) (by omega))
    · have h : ¬ left - (r.length : Int) < 0 := by simpa using h
      have := l71 r (by omega) hx r.length 0 (left - r.length) (by omega) (by omega) (by omega)
      (refine RunF.norm0 rfl ?_ this; (repeat' (first | with_reducible exact simT_nil | refine simT_cons rfl rfl ?_ ?_)); all_goals (try first | with_reducible rfl | with_reducible exact congrArg (Value.int .i64) (wrap_succ (by omega)) | exact (rfl : _ = Value.iface _ _) | exact (rfl : Value.int .i64 0 = _) | (simp; done)))
  · simp
    grind
def K71 : Spec := Spec.add K72 71 (fam (fun (p : (List (List Int)) × Int) => [bssV p.1, .int .i64 p.2]) (fun v => (bssD (v.getD 0 .nilFunc), intOf (v.getD 1 .nilFunc))) (fun (p : (List (List Int)) × Int) => p.1.length ≤ maxLen ∧ (∀ x ∈ p.1, x.length ≤ maxLen) ∧ 0 ≤ p.2 ∧ p.2 ≤ 1048576) (fun (p : (List (List Int)) × Int) => .int .i64 (bif decide (p.2 < p.1.length) then -1 else szL p.1 (p.2 - p.1.length))))
theorem K71_ok : SpecOK CT K71 := SpecOK.add K72_ok (fam_ok fun p hp => c71 p.1 p.2 hp)

def LineT.wf (l : LineT) : Prop := l.r.length ≤ maxLen ∧ (∀ x ∈ l.r, x.length ≤ maxLen) ∧ l.e.length ≤ maxLen
/-- What is left behind a line. -/
def szLine (l : LineT) (left : Int) : Int := bif decide (left < l.r.length) then -1 else bif decide (szL l.r (left - l.r.length) < 0) then -1 else bif decide (szL l.r (left - l.r.length) < l.e.length) then -1 else szL l.r (left - l.r.length) - l.e.length
theorem szL_le : ∀ (r : List (List Int)) (left : Int), szL r left ≤ left ∨ szL r left = -1
  | [], left => .inl (Int.le_refl _)
  | x :: r, left => by
    simp only [szL]
    cases decide (left < (x.length : Int)) with
    | true => exact .inr rfl
    | false =>
      rcases szL_le r (left - x.length) with h | h
      · exact .inl (by simp only [cond_false]; omega)
      · exact .inr h
theorem szL_sum : ∀ (r : List (List Int)) (left : Int), 0 ≤ szL r left → (sumL r : Int) = left - szL r left
  | [], left, _ => by simp [szL, sumL]
  | x :: r, left, h => by
    simp only [szL] at h ⊢
    cases hd : decide (left < (x.length : Int)) with
    | true => rw [hd] at h; simp at h
    | false =>
      rw [hd] at h
      have := szL_sum r _ h
      simp only [cond_false, sumL, List.map_cons, List.sum_cons] at this ⊢
      omega
theorem szLine_all {l : LineT} {left : Int} (h0 : left ≤ 1048576) (h : 0 ≤ szLine l left) : l.small ∧ szLine l left ≤ left := by
  unfold szLine at h ⊢
  unfold LineT.small LineT.size
  cases h1 : decide (left < (l.r.length : Int)) with
  | true => rw [h1] at h; simp at h
  | false =>
    rw [h1] at h
    cases h2 : decide (szL l.r (left - (l.r.length : Int)) < 0) with
    | true => rw [h2] at h; simp at h
    | false =>
      rw [h2] at h
      cases h3 : decide (szL l.r (left - (l.r.length : Int)) < (l.e.length : Int)) with
      | true => rw [h3] at h; simp at h
      | false =>
        simp only [decide_eq_false_iff_not] at h1 h2 h3
        have := szL_sum l.r (left - (l.r.length : Int)) (by omega)
        simp only [cond_false]
        omega
theorem szLine_small {l : LineT} (h : 0 ≤ szLine l 1048576) : l.small := (szLine_all (Int.le_refl _) h).1

theorem ok20 : codeOk CT Try.f20 (Try.f20.body.get rfl) = true := by kernel_rfl
theorem c20 (l : LineT) (left : Int) (hp : l.wf ∧ 0 ≤ left ∧ left ≤ 1048576) : Fz CT 20 [lineV l, .int .i64 left] (.int .i64 (szLine l left)) := by
  obtain ⟨⟨h1, h2, h3⟩, h4, h5⟩ := hp
  have h1' : l.r.length ≤ 9223372036854775807 := h1
  have h3' : l.e.length ≤ 9223372036854775807 := h3
  refine Fz.of_sRun (K := K71) (K3 := Spec3.none) (O := []) (D := [(6, bssV l.r), (8, .int .i64 (bif decide (left < (l.r.length : Int)) then -1 else szL l.r (left - (l.r.length : Int)))), (12, intsV .u8 l.e)]) (k := 400) (H := []) CT_ok rfl K71_ok Spec3OK.none (c := Try.f20.body.get rfl) Try.func20 rfl (Nat.le_of_ble_eq_true rfl) (by decide) rfl ok20 rfl ?_ ?_
  · repeat' (first | with_reducible exact holds_none | with_reducible exact all_nil | with_reducible refine holds_some ?_ | with_reducible refine andP_intro ?_ ?_ | with_reducible refine condP_intro (fun h => ?_) (fun h => ?_) | with_reducible refine psP_intro ?_ | with_reducible refine all_append ?_ ?_ | with_reducible refine all_under (fun h => ?_) | with_reducible refine all_one ?_ | with_reducible refine all_cons ?_ ?_)
    all_goals first | exact (rfl : @Eq (List Value) _ _) | with_reducible exact le_goal (Nat.le_of_ble_eq_true rfl) | with_reducible exact fixd_goal rfl (Nat.le_of_ble_eq_true rfl) | (with_reducible refine hit_intro ?_ ?_ <;> (simp; done)) | exact (rfl : @Eq Value _ (Value.iface _ _)) | exact (rfl : @Eq Value _ (Value.agg _)) | (with_reducible refine veq_goal ?_; simp; done) | skip
    · refine hit_of (l.r, left) rfl (by simp) ⟨h1, h2, h4, h5⟩
    · rw [decide_eq_false_iff_not] at h
      have h4 : 0 ≤ (bif decide (left < (l.r.length : Int)) then -1 else szL l.r (left - (l.r.length : Int))) := by omega
      refine hit_of (l.e, _) rfl (by simp) ⟨h3, h4, ?_⟩
      have := szL_le l.r (left - l.r.length)
      cases decide (left < (l.r.length : Int)) <;> simp <;> omega
  · simp [szLine]
    grind
def K20 : Spec := Spec.add K71 20 (fam (fun (p : LineT × Int) => [lineV p.1, .int .i64 p.2]) (fun v => (lineD (v.getD 0 .nilFunc), intOf (v.getD 1 .nilFunc))) (fun (p : LineT × Int) => p.1.wf ∧ 0 ≤ p.2 ∧ p.2 ≤ 1048576) (fun (p : LineT × Int) => .int .i64 (szLine p.1 p.2)))
theorem K20_ok : SpecOK CT K20 := SpecOK.add K71_ok (fam_ok fun p hp => c20 p.1 p.2 hp)

theorem ok19 : codeOk CT Try.f19 (Try.f19.body.get rfl) = true := by kernel_rfl
theorem l19 (a b : List Int) (hab : a.length = b.length) (hl : a.length ≤ 1048576) : ∀ (n i : Nat), i + n = a.length → RunF CT Try.f19 (atLoop Try.f19 0) [(0, intsV .u8 a), (1, intsV .u8 b), (5, .int .i64 i)] [] (.bool (a.drop i == b.drop i)) := by
  intro n
  induction n with
  | zero =>
    intro i hi
    have hb := idx_ge (i := i) (n := a.length) (by omega)
    refine RunF.of_sRun (K := K20) (K3 := Spec3.none) (O := []) (D := []) (H := [.bool false]) CT_ok rfl K20_ok Spec3OK.none (c := Try.f19.body.get rfl) rfl ok19 400 rfl ?_ ?_
    · repeat' (first | refine condP_ff hb ?_ | with_reducible exact holds_none | with_reducible exact all_nil | with_reducible refine holds_some ?_ | with_reducible refine andP_intro ?_ ?_ | with_reducible refine condP_intro (fun h => ?_) (fun h => ?_) | with_reducible refine psP_intro ?_ | with_reducible refine all_append ?_ ?_ | with_reducible refine all_under (fun h => ?_) | with_reducible refine all_one ?_ | with_reducible refine all_cons ?_ ?_)
      all_goals first | exact (rfl : @Eq (List Value) _ _) | with_reducible exact le_goal (Nat.le_of_ble_eq_true rfl) | with_reducible exact fixd_goal rfl (Nat.le_of_ble_eq_true rfl) | (with_reducible refine hit_intro ?_ ?_ <;> (simp; done)) | exact (rfl : @Eq Value _ (Value.iface _ _)) | exact (rfl : @Eq Value _ (Value.agg _)) | (with_reducible refine veq_goal ?_; simp; done) | skip
    · rw [show a.drop i = [] from List.drop_eq_nil_of_le (by omega), show b.drop i = [] from List.drop_eq_nil_of_le (by omega)]
      exact vbool_ff hb rfl
  | succ n ih =>
    intro i hi
    have hlt : i < a.length := by omega
    have hlt' : i < b.length := by omega
    have hb := idx_lt hlt
    refine RunF.of_sRun (K := K20) (K3 := Spec3.none) (O := []) (D := [(20, .int .u8 a[i]), (24, .int .u8 b[i])]) (H := [.bool (a.drop (i + 1) == b.drop (i + 1))]) CT_ok rfl K20_ok Spec3OK.none (c := Try.f19.body.get rfl) rfl ok19 400 rfl ?_ ?_
    · repeat' (first | refine condP_tt hb ?_ | with_reducible exact holds_none | with_reducible exact all_nil | with_reducible refine holds_some ?_ | with_reducible refine andP_intro ?_ ?_ | with_reducible refine condP_intro (fun h => ?_) (fun h => ?_) | with_reducible refine psP_intro ?_ | with_reducible refine all_append ?_ ?_ | with_reducible refine all_under (fun h => ?_) | with_reducible refine all_one ?_ | with_reducible refine all_cons ?_ ?_)
      all_goals first | exact (rfl : @Eq (List Value) _ _) | with_reducible exact le_goal (Nat.le_of_ble_eq_true rfl) | with_reducible exact fixd_goal rfl (Nat.le_of_ble_eq_true rfl) | (with_reducible refine hit_intro ?_ ?_ <;> (simp; done)) | exact (rfl : @Eq Value _ (Value.iface _ _)) | exact (rfl : @Eq Value _ (Value.agg _)) | (with_reducible refine veq_goal ?_; simp; done) | skip
      · exact in_range hlt
      · exact load_ints (by decide) (by simpa using hlt)
      · rw [loaded (by decide)]; simp [hlt]
      · exact in_range hlt'
      · exact load_ints (by decide) (by simpa using hlt')
      · rw [loaded (by decide)]; simp [hlt']
      · have hih := ih (i + 1) (by omega)
        (refine RunF.norm0 rfl ?_ hih; (repeat' (first | with_reducible exact simT_nil | refine simT_cons rfl rfl ?_ ?_)); all_goals (try first | with_reducible rfl | with_reducible exact congrArg (Value.int .i64) (wrap_succ (by omega)) | exact (rfl : _ = Value.iface _ _) | exact (rfl : Value.int .i64 0 = _) | (simp; done)))
    · refine vbool_tt hb ?_
      have key : (a.drop i == b.drop i) = (a[i] == b[i] && (a.drop (i + 1) == b.drop (i + 1))) := by rw [List.drop_eq_getElem_cons hlt, List.drop_eq_getElem_cons hlt', List.cons_beq_cons]
      rw [key]
      simp only [bne]
      cases (a[i] == b[i]) <;> rfl
theorem c19 (a : List Int) (b : List Int) (hp : a.length ≤ 1048576 ∧ b.length ≤ 1048576) : Fz CT 19 [intsV .u8 a, intsV .u8 b] (.bool (a == b)) := by
  refine Fz.of_sRun (K := K20) (K3 := Spec3.none) (O := []) (D := []) (k := 400) (H := [.bool (a == b)]) CT_ok rfl K20_ok Spec3OK.none (c := Try.f19.body.get rfl) Try.func19 rfl (Nat.le_of_ble_eq_true rfl) (by decide) rfl ok19 rfl ?_ ?_
  · repeat' (first | with_reducible exact holds_none | with_reducible exact all_nil | with_reducible refine holds_some ?_ | with_reducible refine andP_intro ?_ ?_ | with_reducible refine condP_intro (fun h => ?_) (fun h => ?_) | with_reducible refine psP_intro ?_ | with_reducible refine all_append ?_ ?_ | with_reducible refine all_under (fun h => ?_) | with_reducible refine all_one ?_ | with_reducible refine all_cons ?_ ?_)
    all_goals first | exact (rfl : @Eq (List Value) _ _) | with_reducible exact le_goal (Nat.le_of_ble_eq_true rfl) | with_reducible exact fixd_goal rfl (Nat.le_of_ble_eq_true rfl) | (with_reducible refine hit_intro ?_ ?_ <;> (simp; done)) | exact (rfl : @Eq Value _ (Value.iface _ _)) | exact (rfl : @Eq Value _ (Value.agg _)) | (with_reducible refine veq_goal ?_; simp; done) | skip
    have h : a.length = b.length := by simp at h; omega
    have := l19 a b h hp.1 a.length 0 (by omega)
    (refine RunF.norm0 rfl ?_ this; (repeat' (first | with_reducible exact simT_nil | refine simT_cons rfl rfl ?_ ?_)); all_goals (try first | with_reducible rfl | with_reducible exact congrArg (Value.int .i64) (wrap_succ (by omega)) | exact (rfl : _ = Value.iface _ _) | exact (rfl : Value.int .i64 0 = _) | (simp; done)))
  · show Value.bool (bif ((a.length : Int) != (b.length : Int)) then false else (a == b)) = _
    cases h : ((a.length : Int) != (b.length : Int)) with
    | false => rfl
    | true =>
      have h : a ≠ b := by rintro rfl; simp at h
      simp [h]
def K19 : Spec := Spec.add K20 19 (fam (fun (p : (List Int) × (List Int)) => [intsV .u8 p.1, intsV .u8 p.2]) (fun v => (intsD (v.getD 0 .nilFunc), intsD (v.getD 1 .nilFunc))) (fun (p : (List Int) × (List Int)) => p.1.length ≤ 1048576 ∧ p.2.length ≤ 1048576) (fun (p : (List Int) × (List Int)) => .bool (p.1 == p.2)))
theorem K19_ok : SpecOK CT K19 := SpecOK.add K20_ok (fam_ok fun p hp => c19 p.1 p.2 hp)

theorem ok77 : codeOk CT Try.f77 (Try.f77.body.get rfl) = true := by kernel_rfl
theorem l77 (a b : List (List Int)) (hab : a.length = b.length) (hl : a.length ≤ 1048576) (ha : ∀ x ∈ a, x.length ≤ 1048576) (hb' : ∀ x ∈ b, x.length ≤ 1048576) : ∀ (n i : Nat), i + n = a.length → RunF CT Try.f77 (atLoop Try.f77 0) [(0, bssV a), (1, bssV b), (5, .int .i64 i)] [] (.bool (a.drop i == b.drop i)) := by
  intro n
  induction n with
  | zero =>
    intro i hi
    have hb := idx_ge (i := i) (n := a.length) (by omega)
    refine RunF.of_sRun (K := K19) (K3 := Spec3.none) (O := []) (D := []) (H := [.bool false]) CT_ok rfl K19_ok Spec3OK.none (c := Try.f77.body.get rfl) rfl ok77 400 rfl ?_ ?_
    · repeat' (first | refine condP_ff hb ?_ | with_reducible exact holds_none | with_reducible exact all_nil | with_reducible refine holds_some ?_ | with_reducible refine andP_intro ?_ ?_ | with_reducible refine condP_intro (fun h => ?_) (fun h => ?_) | with_reducible refine psP_intro ?_ | with_reducible refine all_append ?_ ?_ | with_reducible refine all_under (fun h => ?_) | with_reducible refine all_one ?_ | with_reducible refine all_cons ?_ ?_)
      all_goals first | exact (rfl : @Eq (List Value) _ _) | with_reducible exact le_goal (Nat.le_of_ble_eq_true rfl) | with_reducible exact fixd_goal rfl (Nat.le_of_ble_eq_true rfl) | (with_reducible refine hit_intro ?_ ?_ <;> (simp; done)) | exact (rfl : @Eq Value _ (Value.iface _ _)) | exact (rfl : @Eq Value _ (Value.agg _)) | (with_reducible refine veq_goal ?_; simp; done) | skip
    · rw [show a.drop i = [] from List.drop_eq_nil_of_le (by omega), show b.drop i = [] from List.drop_eq_nil_of_le (by omega)]
      exact vbool_ff hb rfl
  | succ n ih =>
    intro i hi
    have hlt : i < a.length := by omega
    have hlt' : i < b.length := by omega
    have hb := idx_lt hlt
    refine RunF.of_sRun (K := K19) (K3 := Spec3.none) (O := []) (D := [(20, intsV .u8 a[i]), (24, intsV .u8 b[i]), (25, .bool (a[i] == b[i]))]) (H := [.bool (a.drop (i + 1) == b.drop (i + 1))]) CT_ok rfl K19_ok Spec3OK.none (c := Try.f77.body.get rfl) rfl ok77 400 rfl ?_ ?_
    · repeat' (first | refine condP_tt hb ?_ | with_reducible exact holds_none | with_reducible exact all_nil | with_reducible refine holds_some ?_ | with_reducible refine andP_intro ?_ ?_ | with_reducible refine condP_intro (fun h => ?_) (fun h => ?_) | with_reducible refine psP_intro ?_ | with_reducible refine all_append ?_ ?_ | with_reducible refine all_under (fun h => ?_) | with_reducible refine all_one ?_ | with_reducible refine all_cons ?_ ?_)
      all_goals first | exact (rfl : @Eq (List Value) _ _) | with_reducible exact le_goal (Nat.le_of_ble_eq_true rfl) | with_reducible exact fixd_goal rfl (Nat.le_of_ble_eq_true rfl) | (with_reducible refine hit_intro ?_ ?_ <;> (simp; done)) | exact (rfl : @Eq Value _ (Value.iface _ _)) | exact (rfl : @Eq Value _ (Value.agg _)) | (with_reducible refine veq_goal ?_; simp; done) | skip
      · exact in_range hlt
      · exact load_bss (r := a) (by decide) (by simpa using hlt)
      · rw [loaded_bss (r := a) (by decide) (by simpa using hlt)]; simp [hlt]
      · exact in_range hlt'
      · exact load_bss (r := b) (by decide) (by simpa using hlt')
      · rw [loaded_bss (r := b) (by decide) (by simpa using hlt')]; simp [hlt']
      · exact hit_of (a[i], b[i]) rfl (by simp) ⟨ha _ (List.getElem_mem hlt), hb' _ (List.getElem_mem hlt')⟩
      · have hih := ih (i + 1) (by omega)
        (refine RunF.norm0 rfl ?_ hih; (repeat' (first | with_reducible exact simT_nil | refine simT_cons rfl rfl ?_ ?_)); all_goals (try first | with_reducible rfl | with_reducible exact congrArg (Value.int .i64) (wrap_succ (by omega)) | exact (rfl : _ = Value.iface _ _) | exact (rfl : Value.int .i64 0 = _) | (simp; done)))
    · refine vbool_tt hb ?_
      have key : (a.drop i == b.drop i) = (a[i] == b[i] && (a.drop (i + 1) == b.drop (i + 1))) := by rw [List.drop_eq_getElem_cons hlt, List.drop_eq_getElem_cons hlt', List.cons_beq_cons]
      rw [key]
      cases (a[i] == b[i]) <;> rfl
def bssSmall (a : List (List Int)) : Prop := a.length ≤ 1048576 ∧ ∀ x ∈ a, x.length ≤ 1048576
theorem sumL_mem {r : List (List Int)} {x : List Int} (h : x ∈ r) : x.length ≤ sumL r := by
  induction r with
  | nil => cases h
  | cons y r ih =>
    simp only [sumL, List.map_cons, List.sum_cons] at *
    rw [List.mem_cons] at h
    rcases h with rfl | h
    · omega
    · have := ih h; omega
theorem LineT.small.bss {l : LineT} (h : l.small) : bssSmall l.r ∧ l.e.length ≤ 1048576 := by
  obtain ⟨h1, h2⟩ := h
  unfold LineT.size at h2
  exact ⟨⟨h1, fun x hx => by have := sumL_mem hx; omega⟩, by omega⟩
theorem c77 (a : List (List Int)) (b : List (List Int)) (hp : bssSmall a ∧ bssSmall b) : Fz CT 77 [bssV a, bssV b] (.bool (a == b)) := by
  refine Fz.of_sRun (K := K19) (K3 := Spec3.none) (O := []) (D := []) (k := 400) (H := [.bool (a == b)]) CT_ok rfl K19_ok Spec3OK.none (c := Try.f77.body.get rfl) Try.func77 rfl (Nat.le_of_ble_eq_true rfl) (by decide) rfl ok77 rfl ?_ ?_
  · repeat' (first | with_reducible exact holds_none | with_reducible exact all_nil | with_reducible refine holds_some ?_ | with_reducible refine andP_intro ?_ ?_ | with_reducible refine condP_intro (fun h => ?_) (fun h => ?_) | with_reducible refine psP_intro ?_ | with_reducible refine all_append ?_ ?_ | with_reducible refine all_under (fun h => ?_) | with_reducible refine all_one ?_ | with_reducible refine all_cons ?_ ?_)
    all_goals first | exact (rfl : @Eq (List Value) _ _) | with_reducible exact le_goal (Nat.le_of_ble_eq_true rfl) | with_reducible exact fixd_goal rfl (Nat.le_of_ble_eq_true rfl) | (with_reducible refine hit_intro ?_ ?_ <;> (simp; done)) | exact (rfl : @Eq Value _ (Value.iface _ _)) | exact (rfl : @Eq Value _ (Value.agg _)) | (with_reducible refine veq_goal ?_; simp; done) | skip
    have h : a.length = b.length := by simp at h; omega
    have := l77 a b h hp.1.1 hp.1.2 hp.2.2 a.length 0 (by omega)
    (refine RunF.norm0 rfl ?_ this; (repeat' (first | with_reducible exact simT_nil | refine simT_cons rfl rfl ?_ ?_)); all_goals (try first | with_reducible rfl | with_reducible exact congrArg (Value.int .i64) (wrap_succ (by omega)) | exact (rfl : _ = Value.iface _ _) | exact (rfl : Value.int .i64 0 = _) | (simp; done)))
  · show Value.bool (bif ((a.length : Int) != (b.length : Int)) then false else (a == b)) = _
    cases h : ((a.length : Int) != (b.length : Int)) with
    | false => rfl
    | true =>
      have h : a ≠ b := by rintro rfl; simp at h
      simp [h]
def K77 : Spec := Spec.add K19 77 (fam (fun (p : (List (List Int)) × (List (List Int))) => [bssV p.1, bssV p.2]) (fun v => (bssD (v.getD 0 .nilFunc), bssD (v.getD 1 .nilFunc))) (fun (p : (List (List Int)) × (List (List Int))) => bssSmall p.1 ∧ bssSmall p.2) (fun (p : (List (List Int)) × (List (List Int))) => .bool (p.1 == p.2)))
theorem K77_ok : SpecOK CT K77 := SpecOK.add K19_ok (fam_ok fun p hp => c77 p.1 p.2 hp)

def LineT.eqv (a b : LineT) : Bool := a.r == b.r && a.e == b.e && a.lit == b.lit && a.br == b.br
theorem ok24 : codeOk CT Try.f24 (Try.f24.body.get rfl) = true := by kernel_rfl
theorem c24 (a : LineT) (b : LineT) (hp : a.small ∧ b.small) : Fz CT 24 [lineV a, lineV b] (.bool (a.eqv b)) := by
  have ha := hp.1.bss
  have hb := hp.2.bss
  refine Fz.of_sRun (K := K77) (K3 := Spec3.none) (O := []) (D := [(6, bssV a.r), (8, bssV b.r), (9, .bool (a.r == b.r)), (12, intsV .u8 a.e), (14, intsV .u8 b.e), (15, .bool (a.e == b.e)), (18, .bool a.lit), (20, .bool b.lit), (23, .int .i64 a.br), (25, .int .i64 b.br)]) (k := 400) (H := []) CT_ok rfl K77_ok Spec3OK.none (c := Try.f24.body.get rfl) Try.func24 rfl (Nat.le_of_ble_eq_true rfl) (by decide) rfl ok24 rfl ?_ ?_
  · repeat' (first | with_reducible exact holds_none | with_reducible exact all_nil | with_reducible refine holds_some ?_ | with_reducible refine andP_intro ?_ ?_ | with_reducible refine condP_intro (fun h => ?_) (fun h => ?_) | with_reducible refine psP_intro ?_ | with_reducible refine all_append ?_ ?_ | with_reducible refine all_under (fun h => ?_) | with_reducible refine all_one ?_ | with_reducible refine all_cons ?_ ?_)
    all_goals first | exact (rfl : @Eq (List Value) _ _) | with_reducible exact le_goal (Nat.le_of_ble_eq_true rfl) | with_reducible exact fixd_goal rfl (Nat.le_of_ble_eq_true rfl) | (with_reducible refine hit_intro ?_ ?_ <;> (simp; done)) | exact (rfl : @Eq Value _ (Value.iface _ _)) | exact (rfl : @Eq Value _ (Value.agg _)) | (with_reducible refine veq_goal ?_; simp; done) | skip
    · exact hit_of (a.r, b.r) rfl (by simp) ⟨ha.1, hb.1⟩
    · exact hit_of (a.e, b.e) rfl (by simp) ⟨ha.2, hb.2⟩
  · simp only [LineT.eqv, bne]
    cases (a.r == b.r) <;> cases (a.e == b.e) <;> cases (a.lit == b.lit) <;> cases (a.br == b.br) <;> rfl
def K24 : Spec := Spec.add K77 24 (fam (fun (p : LineT × LineT) => [lineV p.1, lineV p.2]) (fun v => (lineD (v.getD 0 .nilFunc), lineD (v.getD 1 .nilFunc))) (fun (p : LineT × LineT) => p.1.small ∧ p.2.small) (fun (p : LineT × LineT) => .bool (p.1.eqv p.2)))
theorem K24_ok : SpecOK CT K24 := SpecOK.add K77_ok (fam_ok fun p hp => c24 p.1 p.2 hp)
end Go.Ab
