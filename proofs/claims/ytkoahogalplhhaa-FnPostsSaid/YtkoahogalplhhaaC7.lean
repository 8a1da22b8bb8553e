/- The law FnExactSameLines, at all arguments. -/
import Derived.Test.YtkoahogalplhhaaC6
namespace Go.Ab
open Go.Proofs
set_option maxRecDepth 100000
set_option linter.unusedVariables false
set_option linter.unusedSimpArgs false

theorem ok76 : codeOk CT Try.f76 (Try.f76.body.get rfl) = true := by kernel_rfl
theorem l76 (a b : List Int) (hab : a.length = b.length) (hl : a.length ≤ 1048576) : ∀ (n i : Nat), i + n = a.length → RunF CT Try.f76 (atLoop Try.f76 0) [(0, intsV .u8 a), (1, intsV .u8 b), (12, .int .i64 a.length), (13, .int .i64 i)] [] (.bool (a.drop i == b.drop i)) := by
  intro n
  induction n with
  | zero =>
    intro i hi
    have hb := idx_ge (i := i) (n := a.length) (by omega)
    refine RunF.of_sRun (K := K40) (K3 := Spec3.none) (O := []) (D := []) (H := [.bool false]) CT_ok rfl K40_ok Spec3OK.none (c := Try.f76.body.get rfl) rfl ok76 400 rfl ?_ ?_
    · repeat' (first | refine condP_ff hb ?_ | with_reducible exact holds_none | with_reducible exact all_nil | with_reducible refine holds_some ?_ | with_reducible refine andP_intro ?_ ?_ | with_reducible refine condP_intro (fun h => ?_) (fun h => ?_) | with_reducible refine psP_intro ?_ | with_reducible refine all_append ?_ ?_ | with_reducible refine all_under (fun h => ?_) | with_reducible refine all_one ?_ | with_reducible refine all_cons ?_ ?_)
      all_goals first | exact (rfl : @Eq (List Value) _ _) | with_reducible exact le_goal (Nat.le_of_ble_eq_true rfl) | with_reducible exact fixd_goal rfl (Nat.le_of_ble_eq_true rfl) | (with_reducible refine hit_intro ?_ ?_ <;> (simp; done)) | exact (rfl : @Eq Value _ (Value.iface _ _)) | exact (rfl : @Eq Value _ (Value.agg _)) | (with_reducible refine veq_goal ?_; simp; done) | skip
    · rw [show a.drop i = [] from List.drop_eq_nil_of_le (by omega), show b.drop i = [] from List.drop_eq_nil_of_le (by omega)]
      exact vbool_ff hb rfl
  | succ n ih =>
    intro i hi
    have hlt : i < a.length := by omega
    have hlt' : i < b.length := by omega
    have hb := idx_lt hlt
    refine RunF.of_sRun (K := K40) (K3 := Spec3.none) (O := []) (D := [(19, .int .u8 a[i]), (23, .int .u8 b[i])]) (H := [.bool (a.drop (i + 1) == b.drop (i + 1))]) CT_ok rfl K40_ok Spec3OK.none (c := Try.f76.body.get rfl) rfl ok76 400 rfl ?_ ?_
    · repeat' (first | refine condP_tt hb ?_ | with_reducible exact holds_none | with_reducible exact all_nil | with_reducible refine holds_some ?_ | with_reducible refine andP_intro ?_ ?_ | with_reducible refine condP_intro (fun h => ?_) (fun h => ?_) | with_reducible refine psP_intro ?_ | with_reducible refine all_append ?_ ?_ | with_reducible refine all_under (fun h => ?_) | with_reducible refine all_one ?_ | with_reducible refine all_cons ?_ ?_)
      all_goals first | exact (rfl : @Eq (List Value) _ _) | with_reducible exact le_goal (Nat.le_of_ble_eq_true rfl) | with_reducible exact fixd_goal rfl (Nat.le_of_ble_eq_true rfl) | (with_reducible refine hit_intro ?_ ?_ <;> (simp; done)) | exact (rfl : @Eq Value _ (Value.iface _ _)) | exact (rfl : @Eq Value _ (Value.agg _)) | (with_reducible refine veq_goal ?_; simp; done) | skip
      · exact in_range hlt
      · exact load_ints (by decide) (by simpa using hlt)
      · rw [loaded (by decide)]; simp [hlt]
      · exact in_range hlt'
      · exact load_ints (by decide) (by simpa using hlt')
      · rw [loaded (by decide)]; simp [hlt']
      · have hih := ih (i + 1) (by omega)
        (refine RunF.norm0 rfl ?_ hih; (repeat' (first | with_reducible exact simT_nil | refine simT_cons rfl rfl ?_ ?_)); all_goals (try first | with_reducible rfl | with_reducible exact congrArg (Value.int .i64) (wrap_succ (by omega)) | exact (rfl : _ = Value.iface _ _) | exact (rfl : Value.int .i64 0 = _) | (simp; done)))
    · refine vbool_tt hb ?_
      have key : (a.drop i == b.drop i) = (a[i] == b[i] && (a.drop (i + 1) == b.drop (i + 1))) := by rw [List.drop_eq_getElem_cons hlt, List.drop_eq_getElem_cons hlt', List.cons_beq_cons]
      rw [key]
      simp only [bne]
      cases (a[i] == b[i]) <;> rfl
theorem c76 (a : List Int) (b : List Int) (hp : a.length ≤ 1048576 ∧ b.length ≤ 1048576) : Fz CT 76 [intsV .u8 a, intsV .u8 b] (.bool (a == b)) := by
  refine Fz.of_sRun (K := K40) (K3 := Spec3.none) (O := []) (D := []) (k := 400) (H := [.bool (a == b)]) CT_ok rfl K40_ok Spec3OK.none (c := Try.f76.body.get rfl) Try.func76 rfl (Nat.le_of_ble_eq_true rfl) (by decide) rfl ok76 rfl ?_ ?_
  · repeat' (first | with_reducible exact holds_none | with_reducible exact all_nil | with_reducible refine holds_some ?_ | with_reducible refine andP_intro ?_ ?_ | with_reducible refine condP_intro (fun h => ?_) (fun h => ?_) | with_reducible refine psP_intro ?_ | with_reducible refine all_append ?_ ?_ | with_reducible refine all_under (fun h => ?_) | with_reducible refine all_one ?_ | with_reducible refine all_cons ?_ ?_)
    all_goals first | exact (rfl : @Eq (List Value) _ _) | with_reducible exact le_goal (Nat.le_of_ble_eq_true rfl) | with_reducible exact fixd_goal rfl (Nat.le_of_ble_eq_true rfl) | (with_reducible refine hit_intro ?_ ?_ <;> (simp; done)) | exact (rfl : @Eq Value _ (Value.iface _ _)) | exact (rfl : @Eq Value _ (Value.agg _)) | (with_reducible refine veq_goal ?_; simp; done) | skip
    have h : a.length = b.length := by simp at h; omega
    have := l76 a b h hp.1 a.length 0 (by omega)
    (refine RunF.norm0 rfl ?_ this; (repeat' (first | with_reducible exact simT_nil | refine simT_cons rfl rfl ?_ ?_)); all_goals (try first | with_reducible rfl | with_reducible exact congrArg (Value.int .i64) (wrap_succ (by omega)) | exact (rfl : _ = Value.iface _ _) | exact (rfl : Value.int .i64 0 = _) | (simp; done)))
  · show Value.bool (bif ((a.length : Int) != (b.length : Int)) then false else (a == b)) = _
    cases h : ((a.length : Int) != (b.length : Int)) with
    | false => rfl
    | true =>
      have h : a ≠ b := by rintro rfl; simp at h
      simp [h]
def K76 : Spec := Spec.add K40 76 (fam (fun (p : (List Int) × (List Int)) => [intsV .u8 p.1, intsV .u8 p.2]) (fun v => (intsD (v.getD 0 .nilFunc), intsD (v.getD 1 .nilFunc))) (fun (p : (List Int) × (List Int)) => p.1.length ≤ 1048576 ∧ p.2.length ≤ 1048576) (fun (p : (List Int) × (List Int)) => .bool (p.1 == p.2)))
theorem K76_ok : SpecOK CT K76 := SpecOK.add K40_ok (fam_ok fun p hp => c76 p.1 p.2 hp)

theorem ok75 : codeOk CT Try.f75 (Try.f75.body.get rfl) = true := by kernel_rfl
theorem l75 (a b : List (List Int)) (hab : a.length = b.length) (ha : bssSmall a) (hb' : bssSmall b) : ∀ (n i : Nat), i + n = a.length → RunF CT Try.f75 (atLoop Try.f75 0) [(1, bssV b), (2, .func (.func 76) #[] #[]), (15, bssV a), (16, .int .i64 a.length), (17, .int .i64 i)] [] (.bool (a.drop i == b.drop i)) := by
  intro n
  have hl := ha.1
  induction n with
  | zero =>
    intro i hi
    have hb := idx_ge (i := i) (n := a.length) (by omega)
    refine RunF.of_sRun (K := K76) (K3 := Spec3.none) (O := []) (D := []) (H := [.bool false]) CT_ok rfl K76_ok Spec3OK.none (c := Try.f75.body.get rfl) rfl ok75 400 rfl ?_ ?_
    · repeat' (first | refine condP_ff hb ?_ | with_reducible exact holds_none | with_reducible exact all_nil | with_reducible refine holds_some ?_ | with_reducible refine andP_intro ?_ ?_ | with_reducible refine condP_intro (fun h => ?_) (fun h => ?_) | with_reducible refine psP_intro ?_ | with_reducible refine all_append ?_ ?_ | with_reducible refine all_under (fun h => ?_) | with_reducible refine all_one ?_ | with_reducible refine all_cons ?_ ?_)
      all_goals first | exact (rfl : @Eq (List Value) _ _) | with_reducible exact le_goal (Nat.le_of_ble_eq_true rfl) | with_reducible exact fixd_goal rfl (Nat.le_of_ble_eq_true rfl) | (with_reducible refine hit_intro ?_ ?_ <;> (simp; done)) | exact (rfl : @Eq Value _ (Value.iface _ _)) | exact (rfl : @Eq Value _ (Value.agg _)) | (with_reducible refine veq_goal ?_; simp; done) | skip
    · rw [show a.drop i = [] from List.drop_eq_nil_of_le (by omega), show b.drop i = [] from List.drop_eq_nil_of_le (by omega)]
      exact vbool_ff hb rfl
  | succ n ih =>
    intro i hi
    have hlt : i < a.length := by omega
    have hlt' : i < b.length := by omega
    have hb := idx_lt hlt
    refine RunF.of_sRun (K := K76) (K3 := Spec3.none) (O := []) (D := [(21, intsV .u8 a[i]), (25, intsV .u8 b[i]), (29, .bool (a[i] == b[i]))]) (H := [.bool (a.drop (i + 1) == b.drop (i + 1))]) CT_ok rfl K76_ok Spec3OK.none (c := Try.f75.body.get rfl) rfl ok75 400 rfl ?_ ?_
    · repeat' (first | refine condP_tt hb ?_ | with_reducible exact holds_none | with_reducible exact all_nil | with_reducible refine holds_some ?_ | with_reducible refine andP_intro ?_ ?_ | with_reducible refine condP_intro (fun h => ?_) (fun h => ?_) | with_reducible refine psP_intro ?_ | with_reducible refine all_append ?_ ?_ | with_reducible refine all_under (fun h => ?_) | with_reducible refine all_one ?_ | with_reducible refine all_cons ?_ ?_)
      all_goals first | exact (rfl : @Eq (List Value) _ _) | with_reducible exact le_goal (Nat.le_of_ble_eq_true rfl) | with_reducible exact fixd_goal rfl (Nat.le_of_ble_eq_true rfl) | (with_reducible refine hit_intro ?_ ?_ <;> (simp; done)) | exact (rfl : @Eq Value _ (Value.iface _ _)) | exact (rfl : @Eq Value _ (Value.agg _)) | (with_reducible refine veq_goal ?_; simp; done) | skip
      · exact in_range hlt
      · exact load_bss (r := a) (by decide) (by simpa using hlt)
      · rw [loaded_bss (r := a) (by decide) (by simpa using hlt)]; simp [hlt]
      · exact in_range hlt'
      · exact load_bss (r := b) (by decide) (by simpa using hlt')
      · rw [loaded_bss (r := b) (by decide) (by simpa using hlt')]; simp [hlt']
      · exact hit_of (a[i], b[i]) rfl (by simp) ⟨ha.2 _ (List.getElem_mem hlt), hb'.2 _ (List.getElem_mem hlt')⟩
      · have hih := ih (i + 1) (by omega)
        (refine RunF.norm0 rfl ?_ hih; (repeat' (first | with_reducible exact simT_nil | refine simT_cons rfl rfl ?_ ?_)); all_goals (try first | with_reducible rfl | with_reducible exact congrArg (Value.int .i64) (wrap_succ (by omega)) | exact (rfl : _ = Value.iface _ _) | exact (rfl : Value.int .i64 0 = _) | (simp; done)))
    · refine vbool_tt hb ?_
      have key : (a.drop i == b.drop i) = (a[i] == b[i] && (a.drop (i + 1) == b.drop (i + 1))) := by rw [List.drop_eq_getElem_cons hlt, List.drop_eq_getElem_cons hlt', List.cons_beq_cons]
      rw [key]
      cases (a[i] == b[i]) <;> rfl
theorem c75 (a : List (List Int)) (b : List (List Int)) (u : Unit) (hp : bssSmall a ∧ bssSmall b) : Fz CT 75 [bssV a, bssV b, .func (.func 76) #[] #[]] (.bool (a == b)) := by
  refine Fz.of_sRun (K := K76) (K3 := Spec3.none) (O := []) (D := []) (k := 400) (H := [.bool (a == b)]) CT_ok rfl K76_ok Spec3OK.none (c := Try.f75.body.get rfl) Try.func75 rfl (Nat.le_of_ble_eq_true rfl) (by decide) rfl ok75 rfl ?_ ?_
  · repeat' (first | with_reducible exact holds_none | with_reducible exact all_nil | with_reducible refine holds_some ?_ | with_reducible refine andP_intro ?_ ?_ | with_reducible refine condP_intro (fun h => ?_) (fun h => ?_) | with_reducible refine psP_intro ?_ | with_reducible refine all_append ?_ ?_ | with_reducible refine all_under (fun h => ?_) | with_reducible refine all_one ?_ | with_reducible refine all_cons ?_ ?_)
    all_goals first | exact (rfl : @Eq (List Value) _ _) | with_reducible exact le_goal (Nat.le_of_ble_eq_true rfl) | with_reducible exact fixd_goal rfl (Nat.le_of_ble_eq_true rfl) | (with_reducible refine hit_intro ?_ ?_ <;> (simp; done)) | exact (rfl : @Eq Value _ (Value.iface _ _)) | exact (rfl : @Eq Value _ (Value.agg _)) | (with_reducible refine veq_goal ?_; simp; done) | skip
    have h : a.length = b.length := by simp at h; omega
    have := l75 a b h hp.1 hp.2 a.length 0 (by omega)
    (refine RunF.norm0 rfl ?_ this; (repeat' (first | with_reducible exact simT_nil | refine simT_cons rfl rfl ?_ ?_)); all_goals (try first | with_reducible rfl | with_reducible exact congrArg (Value.int .i64) (wrap_succ (by omega)) | exact (rfl : _ = Value.iface _ _) | exact (rfl : Value.int .i64 0 = _) | (simp; done)))
  · show Value.bool (bif ((a.length : Int) != (b.length : Int)) then false else (a == b)) = _
    cases h : ((a.length : Int) != (b.length : Int)) with
    | false => rfl
    | true =>
      have h : a ≠ b := by rintro rfl; simp at h
      simp [h]
def K75 : Spec := Spec.add K76 75 (fam (fun (p : (List (List Int)) × (List (List Int)) × Unit) => [bssV p.1, bssV p.2.1, .func (.func 76) #[] #[]]) (fun v => (bssD (v.getD 0 .nilFunc), bssD (v.getD 1 .nilFunc), (fun _ => ()) (v.getD 2 .nilFunc))) (fun (p : (List (List Int)) × (List (List Int)) × Unit) => bssSmall p.1 ∧ bssSmall p.2.1) (fun (p : (List (List Int)) × (List (List Int)) × Unit) => .bool (p.1 == p.2.1)))
theorem K75_ok : SpecOK CT K75 := SpecOK.add K76_ok (fam_ok fun p hp => c75 p.1 p.2.1 p.2.2 hp)

theorem ok23 : codeOk CT Try.f23 (Try.f23.body.get rfl) = true := by kernel_rfl
theorem c23 (a : LineT) (b : LineT) (hp : a.small ∧ b.small) : Fz CT 23 [lineV a, lineV b] (.bool (a.eqv b)) := by
  have ha := hp.1.bss
  have hb := hp.2.bss
  refine Fz.of_sRun (K := K75) (K3 := Spec3.none) (O := []) (D := [(6, bssV a.r), (8, bssV b.r), (9, .bool (a.r == b.r)), (12, intsV .u8 a.e), (14, intsV .u8 b.e), (15, .bool (a.e == b.e)), (19, .bool a.lit), (21, .bool b.lit), (26, .int .i64 a.br), (28, .int .i64 b.br)]) (k := 400) (H := []) CT_ok rfl K75_ok Spec3OK.none (c := Try.f23.body.get rfl) Try.func23 rfl (Nat.le_of_ble_eq_true rfl) (by decide) rfl ok23 rfl ?_ ?_
  · repeat' (first | with_reducible exact holds_none | with_reducible exact all_nil | with_reducible refine holds_some ?_ | with_reducible refine andP_intro ?_ ?_ | with_reducible refine condP_intro (fun h => ?_) (fun h => ?_) | with_reducible refine psP_intro ?_ | with_reducible refine all_append ?_ ?_ | with_reducible refine all_under (fun h => ?_) | with_reducible refine all_one ?_ | with_reducible refine all_cons ?_ ?_)
    all_goals first | exact (rfl : @Eq (List Value) _ _) | with_reducible exact le_goal (Nat.le_of_ble_eq_true rfl) | with_reducible exact fixd_goal rfl (Nat.le_of_ble_eq_true rfl) | (with_reducible refine hit_intro ?_ ?_ <;> (simp; done)) | exact (rfl : @Eq Value _ (Value.iface _ _)) | exact (rfl : @Eq Value _ (Value.agg _)) | (with_reducible refine veq_goal ?_; simp; done) | skip
    · exact hit_of (a.r, b.r, ()) rfl (by simp) ⟨ha.1, hb.1⟩
    · exact hit_of (a.e, b.e) rfl (by simp) ⟨ha.2, hb.2⟩
  · simp only [LineT.eqv]
    cases (a.r == b.r) <;> cases (a.e == b.e) <;> cases (a.lit == b.lit) <;> cases (a.br == b.br) <;> rfl
def K23 : Spec := Spec.add K75 23 (fam (fun (p : LineT × LineT) => [lineV p.1, lineV p.2]) (fun v => (lineD (v.getD 0 .nilFunc), lineD (v.getD 1 .nilFunc))) (fun (p : LineT × LineT) => p.1.small ∧ p.2.small) (fun (p : LineT × LineT) => .bool (p.1.eqv p.2)))
theorem K23_ok : SpecOK CT K23 := SpecOK.add K75_ok (fam_ok fun p hp => c23 p.1 p.2 hp)

theorem ok73 : codeOk CT Try.f73 (Try.f73.body.get rfl) = true := by kernel_rfl
theorem l73 (a b : LineT) (hab : a.r.length = b.r.length) (hl : a.r.length ≤ 1048576) (ha : a.byt) (hb' : b.byt) : ∀ (n i : Nat), i + n = a.r.length → RunF CT Try.f73 (atLoop Try.f73 0) [(0, lineP a), (1, lineP b), (5, .int .i64 i)] [] (.bool (a.r.drop i == b.r.drop i)) := by
  intro n
  induction n with
  | zero =>
    intro i hi
    have hb := idx_ge (i := i) (n := a.r.length) (by omega)
    refine RunF.of_sRun (K := K23) (K3 := Spec3.none) (O := []) (D := [(56, bssV a.r)]) (H := [.bool false]) CT_ok rfl K23_ok Spec3OK.none (c := Try.f73.body.get rfl) rfl ok73 400 rfl ?_ ?_
    · repeat' (first | refine condP_ff hb ?_ | with_reducible exact holds_none | with_reducible exact all_nil | with_reducible refine holds_some ?_ | with_reducible refine andP_intro ?_ ?_ | with_reducible refine condP_intro (fun h => ?_) (fun h => ?_) | with_reducible refine psP_intro ?_ | with_reducible refine all_append ?_ ?_ | with_reducible refine all_under (fun h => ?_) | with_reducible refine all_one ?_ | with_reducible refine all_cons ?_ ?_)
      all_goals first | exact (rfl : @Eq (List Value) _ _) | with_reducible exact le_goal (Nat.le_of_ble_eq_true rfl) | with_reducible exact fixd_goal rfl (Nat.le_of_ble_eq_true rfl) | (with_reducible refine hit_intro ?_ ?_ <;> (simp; done)) | exact (rfl : @Eq Value _ (Value.iface _ _)) | exact (rfl : @Eq Value _ (Value.agg _)) | (with_reducible refine veq_goal ?_; simp; done) | skip
    · rw [show a.r.drop i = [] from List.drop_eq_nil_of_le (by omega), show b.r.drop i = [] from List.drop_eq_nil_of_le (by omega)]
      exact vbool_ff hb rfl
  | succ n ih =>
    intro i hi
    have hlt : i < a.r.length := by omega
    have hlt' : i < b.r.length := by omega
    have hb := idx_lt hlt
    refine RunF.of_sRun (K := K23) (K3 := Spec3.none) (O := []) (D := [(56, bssV a.r), (64, bssV a.r), (67, intsV .u8 a.r[i]), (68, .string (bstr a.r[i])), (72, bssV b.r), (75, intsV .u8 b.r[i]), (76, .string (bstr b.r[i])), (77, .bool (a.r[i] != b.r[i]))]) (H := [.bool (a.r.drop (i + 1) == b.r.drop (i + 1))]) CT_ok rfl K23_ok Spec3OK.none (c := Try.f73.body.get rfl) rfl ok73 400 rfl ?_ ?_
    · repeat' (first | refine condP_tt hb ?_ | with_reducible exact holds_none | with_reducible exact all_nil | with_reducible refine holds_some ?_ | with_reducible refine andP_intro ?_ ?_ | with_reducible refine condP_intro (fun h => ?_) (fun h => ?_) | with_reducible refine psP_intro ?_ | with_reducible refine all_append ?_ ?_ | with_reducible refine all_under (fun h => ?_) | with_reducible refine all_one ?_ | with_reducible refine all_cons ?_ ?_)
      all_goals first | exact (rfl : @Eq (List Value) _ _) | with_reducible exact le_goal (Nat.le_of_ble_eq_true rfl) | with_reducible exact fixd_goal rfl (Nat.le_of_ble_eq_true rfl) | (with_reducible refine hit_intro ?_ ?_ <;> (simp; done)) | exact (rfl : @Eq Value _ (Value.iface _ _)) | exact (rfl : @Eq Value _ (Value.agg _)) | (with_reducible refine veq_goal ?_; simp; done) | skip
      · exact in_range hlt
      · exact load_bss (r := a.r) (by decide) (by simpa using hlt)
      · rw [loaded_bss (r := a.r) (by decide) (by simpa using hlt)]; simp [hlt]
      · exact conv_goal _
      · exact conv_val _
      · exact in_range hlt'
      · exact load_bss (r := b.r) (by decide) (by simpa using hlt')
      · rw [loaded_bss (r := b.r) (by decide) (by simpa using hlt')]; simp [hlt']
      · exact conv_goal _
      · exact conv_val _
      · simp only [bstr_eq (ha.1 _ (List.getElem_mem hlt)) (hb'.1 _ (List.getElem_mem hlt')), bne]
      · have hih := ih (i + 1) (by omega)
        (refine RunF.norm0 rfl ?_ hih; (repeat' (first | with_reducible exact simT_nil | refine simT_cons rfl rfl ?_ ?_)); all_goals (try first | with_reducible rfl | with_reducible exact congrArg (Value.int .i64) (wrap_succ (by omega)) | exact (rfl : _ = Value.iface _ _) | exact (rfl : Value.int .i64 0 = _) | (simp; done)))
    · refine vbool_tt hb ?_
      have key : (a.r.drop i == b.r.drop i) = (a.r[i] == b.r[i] && (a.r.drop (i + 1) == b.r.drop (i + 1))) := by rw [List.drop_eq_getElem_cons hlt, List.drop_eq_getElem_cons hlt', List.cons_beq_cons]
      rw [key]
      simp only [bne]
      cases (a.r[i] == b.r[i]) <;> rfl
theorem c73 (a : LineT) (b : LineT) (hp : a.small ∧ b.small ∧ a.byt ∧ b.byt) : Fz CT 73 [lineP a, lineP b] (.bool (a.eqv b)) := by
  obtain ⟨h1, h2, h3, h4⟩ := hp
  refine Fz.of_sRun (K := K23) (K3 := Spec3.none) (O := []) (D := [(9, intsV .u8 a.e), (10, .string (bstr a.e)), (14, intsV .u8 b.e), (15, .string (bstr b.e)), (16, .bool (a.e != b.e)), (21, .bool a.lit), (25, .bool b.lit), (32, .int .i64 a.br), (36, .int .i64 b.br), (43, bssV a.r), (48, bssV b.r)]) (k := 400) (H := [.bool (a.r == b.r)]) CT_ok rfl K23_ok Spec3OK.none (c := Try.f73.body.get rfl) Try.func73 rfl (Nat.le_of_ble_eq_true rfl) (by decide) rfl ok73 rfl ?_ ?_
  · repeat' (first | with_reducible exact holds_none | with_reducible exact all_nil | with_reducible refine holds_some ?_ | with_reducible refine andP_intro ?_ ?_ | with_reducible refine condP_intro (fun h => ?_) (fun h => ?_) | with_reducible refine psP_intro ?_ | with_reducible refine all_append ?_ ?_ | with_reducible refine all_under (fun h => ?_) | with_reducible refine all_one ?_ | with_reducible refine all_cons ?_ ?_)
    all_goals first | exact (rfl : @Eq (List Value) _ _) | with_reducible exact le_goal (Nat.le_of_ble_eq_true rfl) | with_reducible exact fixd_goal rfl (Nat.le_of_ble_eq_true rfl) | (with_reducible refine hit_intro ?_ ?_ <;> (simp; done)) | exact (rfl : @Eq Value _ (Value.iface _ _)) | exact (rfl : @Eq Value _ (Value.agg _)) | (with_reducible refine veq_goal ?_; simp; done) | skip
    · exact conv_goal _
    · exact conv_val _
    · exact conv_goal _
    · exact conv_val _
    · simp only [bstr_eq h3.2 h4.2, bne]
    · have h : a.r.length = b.r.length := by
        simp at h
        omega
      have := l73 a b h h1.1 h3 h4 a.r.length 0 (by omega)
      (refine RunF.norm0 rfl ?_ this; (repeat' (first | with_reducible exact simT_nil | refine simT_cons rfl rfl ?_ ?_)); all_goals (try first | with_reducible rfl | with_reducible exact congrArg (Value.int .i64) (wrap_succ (by omega)) | exact (rfl : _ = Value.iface _ _) | exact (rfl : Value.int .i64 0 = _) | (simp; done)))
  · simp only [LineT.eqv, bne]
    cases h : ((a.r.length : Int) == (b.r.length : Int)) with
    | false =>
      have h : (a.r == b.r) = false := by
        rw [beq_eq_false_iff_ne]
        intro e
        rw [e] at h
        simp at h
      rw [h]
      cases (a.e == b.e) <;> cases (a.lit == b.lit) <;> cases (a.br == b.br) <;> rfl
    | true => cases (a.r == b.r) <;> cases (a.e == b.e) <;> cases (a.lit == b.lit) <;> cases (a.br == b.br) <;> rfl
def K73 : Spec := Spec.add K23 73 (fam (fun (p : LineT × LineT) => [lineP p.1, lineP p.2]) (fun v => (lineD (v.getD 0 .nilFunc), lineD (v.getD 1 .nilFunc))) (fun (p : LineT × LineT) => p.1.small ∧ p.2.small ∧ p.1.byt ∧ p.2.byt) (fun (p : LineT × LineT) => .bool (p.1.eqv p.2)))
theorem K73_ok : SpecOK CT K73 := SpecOK.add K23_ok (fam_ok fun p hp => c73 p.1 p.2 hp)

theorem ok21 : codeOk CT Try.f21 (Try.f21.body.get rfl) = true := by kernel_rfl
theorem c21 (a : LineT) (b : LineT) (hp : a.small ∧ b.small ∧ a.byt ∧ b.byt) : Fz CT 21 [lineV a, lineV b] (.bool (a.eqv b)) := by
  refine Fz.of_sRun (K := K73) (K3 := Spec3.none) (O := []) (D := []) (k := 400) (H := []) CT_ok rfl K73_ok Spec3OK.none (c := Try.f21.body.get rfl) Try.func21 rfl (Nat.le_of_ble_eq_true rfl) (by decide) rfl ok21 rfl ?_ ?_
  · repeat' (first | with_reducible exact holds_none | with_reducible exact all_nil | with_reducible refine holds_some ?_ | with_reducible refine andP_intro ?_ ?_ | with_reducible refine condP_intro (fun h => ?_) (fun h => ?_) | with_reducible refine psP_intro ?_ | with_reducible refine all_append ?_ ?_ | with_reducible refine all_under (fun h => ?_) | with_reducible refine all_one ?_ | with_reducible refine all_cons ?_ ?_)
    all_goals first | exact (rfl : @Eq (List Value) _ _) | with_reducible exact le_goal (Nat.le_of_ble_eq_true rfl) | with_reducible exact fixd_goal rfl (Nat.le_of_ble_eq_true rfl) | (with_reducible refine hit_intro ?_ ?_ <;> (simp; done)) | exact (rfl : @Eq Value _ (Value.iface _ _)) | exact (rfl : @Eq Value _ (Value.agg _)) | (with_reducible refine veq_goal ?_; simp; done) | skip
    exact hit_of (a, b) rfl (by simp) hp
  · simp
def K21 : Spec := Spec.add K73 21 (fam (fun (p : LineT × LineT) => [lineV p.1, lineV p.2]) (fun v => (lineD (v.getD 0 .nilFunc), lineD (v.getD 1 .nilFunc))) (fun (p : LineT × LineT) => p.1.small ∧ p.2.small ∧ p.1.byt ∧ p.2.byt) (fun (p : LineT × LineT) => .bool (p.1.eqv p.2)))
theorem K21_ok : SpecOK CT K21 := SpecOK.add K73_ok (fam_ok fun p hp => c21 p.1 p.2 hp)

theorem ok4 : codeOk CT Try.f4 (Try.f4.body.get rfl) = true := by kernel_rfl
theorem law4 (a b : LineT) (ha : a.wf) (hb : b.wf) (ha' : a.byt) (hb' : b.byt) : Fz CT 4 [lineV a, lineV b] (.bool true) := by
  cases hs : decide (szLine a 1048576 < 0) with
  | true =>
    refine Fz.of_sRun (K := K21) (K3 := Spec3.none) (O := []) (D := [(10, lineV a), (12, .int .i64 (szLine a 1048576)), (15, lineV b), (17, .int .i64 (szLine b (szLine a 1048576))), (20, lineV a), (21, lineV a), (22, lineV b), (23, lineV b), (24, .bool (a.eqv b)), (25, lineV a), (26, lineV a), (27, lineV b), (28, lineV b), (29, lineV a), (30, lineV b), (31, .bool (a.eqv b)), (35, lineV a), (36, lineV a), (37, lineV a), (38, .bool true), (40, lineV b), (41, lineV b), (42, lineV b), (43, .bool true)]) (k := 400) (H := []) CT_ok rfl K21_ok Spec3OK.none (c := Try.f4.body.get rfl) Try.func4 rfl (Nat.le_of_ble_eq_true rfl) (by decide) rfl ok4 rfl ?_ ?_
    · repeat' (first | refine condP_tt hs ?_ | with_reducible exact holds_none | with_reducible exact all_nil | with_reducible refine holds_some ?_ | with_reducible refine andP_intro ?_ ?_ | with_reducible refine condP_intro (fun h => ?_) (fun h => ?_) | with_reducible refine psP_intro ?_ | with_reducible refine all_append ?_ ?_ | with_reducible refine all_under (fun h => ?_) | with_reducible refine all_one ?_ | with_reducible refine all_cons ?_ ?_)
      all_goals first | exact (rfl : @Eq (List Value) _ _) | with_reducible exact le_goal (Nat.le_of_ble_eq_true rfl) | with_reducible exact fixd_goal rfl (Nat.le_of_ble_eq_true rfl) | (with_reducible refine hit_intro ?_ ?_ <;> (simp; done)) | exact (rfl : @Eq Value _ (Value.iface _ _)) | exact (rfl : @Eq Value _ (Value.agg _)) | (with_reducible refine veq_goal ?_; simp; done) | skip
      exact hit_of (a, 1048576) rfl (by simp) ⟨ha, by simp, by simp⟩
    · exact vbool_tt hs rfl
  | false =>
    have h0 : 0 ≤ szLine a 1048576 := by simpa using hs
    obtain ⟨hsa, hle⟩ := szLine_all (Int.le_refl _) h0
    cases hs2 : decide (szLine b (szLine a 1048576) < 0) with
    | true =>
      refine Fz.of_sRun (K := K21) (K3 := Spec3.none) (O := []) (D := [(10, lineV a), (12, .int .i64 (szLine a 1048576)), (15, lineV b), (17, .int .i64 (szLine b (szLine a 1048576))), (20, lineV a), (21, lineV a), (22, lineV b), (23, lineV b), (24, .bool (a.eqv b)), (25, lineV a), (26, lineV a), (27, lineV b), (28, lineV b), (29, lineV a), (30, lineV b), (31, .bool (a.eqv b)), (35, lineV a), (36, lineV a), (37, lineV a), (38, .bool true), (40, lineV b), (41, lineV b), (42, lineV b), (43, .bool true)]) (k := 400) (H := []) CT_ok rfl K21_ok Spec3OK.none (c := Try.f4.body.get rfl) Try.func4 rfl (Nat.le_of_ble_eq_true rfl) (by decide) rfl ok4 rfl ?_ ?_
      · repeat' (first | refine condP_ff hs ?_ | refine condP_tt hs2 ?_ | with_reducible exact holds_none | with_reducible exact all_nil | with_reducible refine holds_some ?_ | with_reducible refine andP_intro ?_ ?_ | with_reducible refine condP_intro (fun h => ?_) (fun h => ?_) | with_reducible refine psP_intro ?_ | with_reducible refine all_append ?_ ?_ | with_reducible refine all_under (fun h => ?_) | with_reducible refine all_one ?_ | with_reducible refine all_cons ?_ ?_)
        all_goals first | exact (rfl : @Eq (List Value) _ _) | with_reducible exact le_goal (Nat.le_of_ble_eq_true rfl) | with_reducible exact fixd_goal rfl (Nat.le_of_ble_eq_true rfl) | (with_reducible refine hit_intro ?_ ?_ <;> (simp; done)) | exact (rfl : @Eq Value _ (Value.iface _ _)) | exact (rfl : @Eq Value _ (Value.agg _)) | (with_reducible refine veq_goal ?_; simp; done) | skip
        all_goals first | exact hit_of (a, 1048576) rfl (by simp) ⟨ha, by simp, by simp⟩ | exact hit_of (b, szLine a 1048576) rfl (by simp) ⟨hb, h0, hle⟩
      · exact vbool_ff hs (vbool_tt hs2 rfl)
    | false =>
      obtain ⟨hsb, _⟩ := szLine_all hle (by simpa using hs2)
      refine Fz.of_sRun (K := K21) (K3 := Spec3.none) (O := []) (D := [(10, lineV a), (12, .int .i64 (szLine a 1048576)), (15, lineV b), (17, .int .i64 (szLine b (szLine a 1048576))), (20, lineV a), (21, lineV a), (22, lineV b), (23, lineV b), (24, .bool (a.eqv b)), (25, lineV a), (26, lineV a), (27, lineV b), (28, lineV b), (29, lineV a), (30, lineV b), (31, .bool (a.eqv b)), (35, lineV a), (36, lineV a), (37, lineV a), (38, .bool true), (40, lineV b), (41, lineV b), (42, lineV b), (43, .bool true)]) (k := 400) (H := []) CT_ok rfl K21_ok Spec3OK.none (c := Try.f4.body.get rfl) Try.func4 rfl (Nat.le_of_ble_eq_true rfl) (by decide) rfl ok4 rfl ?_ ?_
      · repeat' (first | refine condP_ff hs ?_ | refine condP_ff hs2 ?_ | with_reducible exact holds_none | with_reducible exact all_nil | with_reducible refine holds_some ?_ | with_reducible refine andP_intro ?_ ?_ | with_reducible refine condP_intro (fun h => ?_) (fun h => ?_) | with_reducible refine psP_intro ?_ | with_reducible refine all_append ?_ ?_ | with_reducible refine all_under (fun h => ?_) | with_reducible refine all_one ?_ | with_reducible refine all_cons ?_ ?_)
        all_goals first | exact (rfl : @Eq (List Value) _ _) | with_reducible exact le_goal (Nat.le_of_ble_eq_true rfl) | with_reducible exact fixd_goal rfl (Nat.le_of_ble_eq_true rfl) | (with_reducible refine hit_intro ?_ ?_ <;> (simp; done)) | exact (rfl : @Eq Value _ (Value.iface _ _)) | exact (rfl : @Eq Value _ (Value.agg _)) | (with_reducible refine veq_goal ?_; simp; done) | skip
        all_goals first | exact hit_of (a, 1048576) rfl (by simp) ⟨ha, by simp, by simp⟩ | exact hit_of (b, szLine a 1048576) rfl (by simp) ⟨hb, h0, hle⟩ | exact hit_of a rfl (by simp) hsa | exact hit_of b rfl (by simp) hsb | exact hit_of (a, a) rfl (by simp) ⟨hsa, hsa⟩ | exact hit_of (b, b) rfl (by simp) ⟨hsb, hsb⟩ | exact hit_of (a, b) rfl (by simp) ⟨hsa, hsb⟩ | exact hit_of (a, b) rfl (by simp) ⟨hsa, hsb, ha', hb'⟩ | simp [LineT.eqv_refl]
      · refine vbool_ff hs (vbool_ff hs2 ?_)
        simp
theorem all_FnExactSameLines : ∀ xs, TypedAll CT [32, 32] xs → Fz CT 4 xs (.bool true)
  | [a, b], h => by
    obtain ⟨a, rfl, ha, ha'⟩ := typed_line h.1
    obtain ⟨b, rfl, hb, hb'⟩ := typed_line h.2.1
    exact law4 a b ha hb ha' hb'
  | [], h => h.elim
  | [_], h => h.2.elim
  | _ :: _ :: _ :: _, h => h.2.2.elim
end Go.Ab
