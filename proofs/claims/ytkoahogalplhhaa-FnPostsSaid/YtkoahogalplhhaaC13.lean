/- The law FnExactStepDecoder, at all arguments. -/
import Derived.Test.YtkoahogalplhhaaC12
namespace Go.Ab
open Go.Proofs
set_option maxRecDepth 100000
set_option linter.unusedVariables false
set_option linter.unusedSimpArgs false
theorem hearD_len (d : DecT) (b : Int) : (hearD d b).1.length ≤ 2 := by
  have := freshD_len b
  unfold hearD
  cases (d.l == 0) <;> cases (!(decide (128 ≤ b) && decide (b ≤ 191))) <;> cases (d.l == 2) <;> cases (isCh (64 * d.v + b - 128) && decide (d.o ≤ 64 * d.v + b - 128)) <;> simp <;> omega
def stepD (d : DecT) (b : Int) : Int × List Int × DecT := bif d.fault == 0 then (0, (hearD d b).1, (hearD d b).2) else (d.fault, [], ⟨0, 0, 0⟩)
theorem ok43 : codeOk CT Try.f43 (Try.f43.body.get rfl) = true := by kernel_rfl
--%D ff all_goals first | rfl | assumption | (refine stable_of ?_; repeat' (first | exact trivial | refine And.intro rfl ?_)) | (simp; done) | trace_state
theorem c43 (d : DecT) (b : Int) (hp : 0 ≤ b ∧ b < 256) : Fz CT 43 [decV d, .int .u8 b] (dresV (stepD d b)) := by
  unfold stepD
  cases hc : d.fault == 0 with
  | true =>
    have hf : d.fault = 0 := by simpa using hc
    have hf' : (d.fault != 0) = false := by rw [hf]; rfl
    refine Fz.of_sRun (K := K94) (K3 := Spec3.none) (O := []) (D := [(8, .int .i64 d.fault), (100010, .bool false), (14, decV d), (16, .int .i64 b), (17, toldV (hearD d b))]) (k := 400) (H := []) CT_ok rfl K94_ok Spec3OK.none (c := Try.f43.body.get rfl) Try.func43 rfl (Nat.le_of_ble_eq_true rfl) (by decide) rfl ok43 rfl ?_ ?_
    · repeat' (first | with_reducible exact holds_none | with_reducible exact all_nil | with_reducible refine holds_some ?_ | with_reducible refine andP_intro ?_ ?_ | with_reducible refine condP_intro (fun h => ?_) (fun h => ?_) | with_reducible refine psP_intro ?_ | with_reducible refine all_append ?_ ?_ | with_reducible refine all_under (fun h => ?_) | with_reducible refine all_one ?_ | with_reducible refine all_cons ?_ ?_)
      all_goals first | exact (rfl : @Eq (List Value) _ _) | with_reducible exact le_goal (Nat.le_of_ble_eq_true rfl) | with_reducible exact fixd_goal rfl (Nat.le_of_ble_eq_true rfl) | (with_reducible refine hit_intro ?_ ?_ <;> (simp; done)) | exact (rfl : @Eq Value _ (Value.iface _ _)) | exact (rfl : @Eq Value _ (Value.agg _)) | (with_reducible refine veq_goal ?_; simp; done) | skip
      all_goals first | assumption | exact congrArg (Value.int .i64) (wrap64 (by omega) (by omega)) | exact hit_of (d, b) rfl (by simp) ⟨hf, hp.1, hp.2⟩ | trace_state
    · rfl
  | false =>
    have hf' : (d.fault != 0) = true := by simp only [bne, hc]; rfl
    refine Fz.of_sRun (K := K94) (K3 := Spec3.none) (O := []) (D := [(8, .int .i64 d.fault), (100010, .bool true)]) (k := 400) (H := []) CT_ok rfl K94_ok Spec3OK.none (c := Try.f43.body.get rfl) Try.func43 rfl (Nat.le_of_ble_eq_true rfl) (by decide) rfl ok43 rfl ?_ ?_
    · repeat' (first | with_reducible exact holds_none | with_reducible exact all_nil | with_reducible refine holds_some ?_ | with_reducible refine andP_intro ?_ ?_ | with_reducible refine condP_intro (fun h => ?_) (fun h => ?_) | with_reducible refine psP_intro ?_ | with_reducible refine all_append ?_ ?_ | with_reducible refine all_under (fun h => ?_) | with_reducible refine all_one ?_ | with_reducible refine all_cons ?_ ?_)
      all_goals first | exact (rfl : @Eq (List Value) _ _) | with_reducible exact le_goal (Nat.le_of_ble_eq_true rfl) | with_reducible exact fixd_goal rfl (Nat.le_of_ble_eq_true rfl) | (with_reducible refine hit_intro ?_ ?_ <;> (simp; done)) | exact (rfl : @Eq Value _ (Value.iface _ _)) | exact (rfl : @Eq Value _ (Value.agg _)) | (with_reducible refine veq_goal ?_; simp; done) | skip
      all_goals first | assumption | trace_state
    · rfl
def K43 : Spec := Spec.add K94 43 (fam (fun (p : DecT × Int) => [decV p.1, .int .u8 p.2]) (fun v => (decD (v.getD 0 .nilFunc), intOf (v.getD 1 .nilFunc))) (fun (p : DecT × Int) => 0 ≤ p.2 ∧ p.2 < 256) (fun (p : DecT × Int) => dresV (stepD p.1 p.2)))
theorem K43_ok : SpecOK CT K43 := SpecOK.add K94_ok (fam_ok fun p hp => c43 p.1 p.2 hp)
theorem ok45 : codeOk CT Try.f45 (Try.f45.body.get rfl) = true := by kernel_rfl
def stV : List Int → Value := chV 0
abbrev stR (c : Int) (v : Value) (d : DecT) : Value := .agg #[.int .i64 c, v, .int .i64 d.l, .int .i64 d.o, .int .i64 d.v]
--%D k0 {(4, 95)}{Spec3.none.add 95 (conE CT 95 (fun _ m => .tuple #[.slice none 0 0, decV d']) (fun _ m => m))}
--%D k1 {(4, 95)}{Spec3.none.add 95 (conE CT 95 (fun _ m => .tuple #[.slice (some ⟨m.length, 0, none⟩) (xs.length + 1) (xs.length + 1), decV d']) (fun _ m => m ++ [outB .i64 (x :: xs)]))}
--%D hf all_goals first | rfl | assumption | (refine stable_of ?_; repeat' (first | exact trivial | refine And.intro rfl ?_)) | (exact Leaf.post CT_ok rfl [] (by decide) simB_nil rfl rfl) | (exact Leaf.post CT_ok rfl [2] (by decide) (simB_leaf rfl rfl rfl rfl rfl (outB_inert _ _) simB_nil) rfl rfl) | (refine Con.lift rfl ho trivial rfl rfl all_nil (by simp)) | (refine Con.lift rfl ho (outB_own _ _) rfl rfl all_nil rfl) | (simp; done) | (simp; omega) | trace_state
theorem o45 (d : DecT) (b : Int) (hb0 : 0 ≤ b) (hb1 : b < 256) : OwnFz CT 45 [decV d, .int .u8 b] (stR (stepD d b).1 (chV 0 (stepD d b).2.1) (stepD d b).2.2) (chM (stepD d b).2.1) := by
  unfold stepD
  cases hc : d.fault == 0 with
  | true =>
    have hf : d.fault = 0 := by simpa using hc
    have hf' : (d.fault != 0) = false := by rw [hf]; rfl
    have ho := o95 d b hf hb0 hb1
    rcases hfr : hearD d b with ⟨cs, d'⟩
    rw [hfr] at ho
    cases cs with
    | nil =>
      refine Own.of_sRunK (K := K43) (K3 := (Spec3.none.add 95 (conE CT 95 (fun _ m => .tuple #[.slice none 0 0, decV d']) (fun _ m => m)))) (O := [(4, 95)]) (D := [(8, decV d), (9, .int .i64 d.fault), (100011, .bool false), (15, decV d)]) (j := 400) CT_ok rfl K43_ok (by repeat' (first | exact Spec3OK.none | refine Spec3OK.add ?_ conE_ok)) (c := Try.f45.body.get rfl) Try.func45 rfl (Nat.le_of_ble_eq_true rfl) (by decide) rfl ok45 rfl ?_
      repeat' (first | with_reducible exact holds_none | with_reducible exact all_nil | with_reducible refine holds_some ?_ | with_reducible refine andP_intro ?_ ?_ | with_reducible refine condP_intro (fun h => ?_) (fun h => ?_) | with_reducible refine psP_intro ?_ | with_reducible refine all_append ?_ ?_ | with_reducible refine all_under (fun h => ?_) | with_reducible refine all_one ?_ | with_reducible refine all_cons ?_ ?_)
      all_goals first | exact (rfl : @Eq (List Value) _ _) | with_reducible exact le_goal (Nat.le_of_ble_eq_true rfl) | with_reducible exact fixd_goal rfl (Nat.le_of_ble_eq_true rfl) | (with_reducible refine hit_intro ?_ ?_ <;> (simp; done)) | exact (rfl : @Eq Value _ (Value.iface _ _)) | exact (rfl : @Eq Value _ (Value.agg _)) | (with_reducible refine veq_goal ?_; simp; done) | skip
      all_goals first | rfl | assumption | (refine stable_of ?_; repeat' (first | exact trivial | refine And.intro rfl ?_)) | (exact Leaf.post CT_ok rfl [] (by decide) simB_nil rfl rfl) | (exact Leaf.post CT_ok rfl [2] (by decide) (simB_leaf rfl rfl rfl rfl rfl (outB_inert _ _) simB_nil) rfl rfl) | (refine Con.lift rfl ho trivial rfl rfl all_nil (by simp)) | (refine Con.lift rfl ho (outB_own _ _) rfl rfl all_nil rfl) | (simp; done) | (simp; omega) | trace_state
    | cons x xs =>
      refine Own.of_sRunK (K := K43) (K3 := (Spec3.none.add 95 (conE CT 95 (fun _ m => .tuple #[.slice (some ⟨m.length, 0, none⟩) (xs.length + 1) (xs.length + 1), decV d']) (fun _ m => m ++ [outB .i64 (x :: xs)])))) (O := [(4, 95)]) (D := [(8, decV d), (9, .int .i64 d.fault), (100011, .bool false), (15, decV d)]) (j := 400) CT_ok rfl K43_ok (by repeat' (first | exact Spec3OK.none | refine Spec3OK.add ?_ conE_ok)) (c := Try.f45.body.get rfl) Try.func45 rfl (Nat.le_of_ble_eq_true rfl) (by decide) rfl ok45 rfl ?_
      repeat' (first | with_reducible exact holds_none | with_reducible exact all_nil | with_reducible refine holds_some ?_ | with_reducible refine andP_intro ?_ ?_ | with_reducible refine condP_intro (fun h => ?_) (fun h => ?_) | with_reducible refine psP_intro ?_ | with_reducible refine all_append ?_ ?_ | with_reducible refine all_under (fun h => ?_) | with_reducible refine all_one ?_ | with_reducible refine all_cons ?_ ?_)
      all_goals first | exact (rfl : @Eq (List Value) _ _) | with_reducible exact le_goal (Nat.le_of_ble_eq_true rfl) | with_reducible exact fixd_goal rfl (Nat.le_of_ble_eq_true rfl) | (with_reducible refine hit_intro ?_ ?_ <;> (simp; done)) | exact (rfl : @Eq Value _ (Value.iface _ _)) | exact (rfl : @Eq Value _ (Value.agg _)) | (with_reducible refine veq_goal ?_; simp; done) | skip
      all_goals first | rfl | assumption | (refine stable_of ?_; repeat' (first | exact trivial | refine And.intro rfl ?_)) | (exact Leaf.post CT_ok rfl [] (by decide) simB_nil rfl rfl) | (exact Leaf.post CT_ok rfl [2] (by decide) (simB_leaf rfl rfl rfl rfl rfl (outB_inert _ _) simB_nil) rfl rfl) | (refine Con.lift rfl ho trivial rfl rfl all_nil (by simp)) | (refine Con.lift rfl ho (outB_own _ _) rfl rfl all_nil rfl) | (simp; done) | (simp; omega) | trace_state
  | false =>
    have hf' : (d.fault != 0) = true := by simp only [bne, hc]; rfl
    refine Own.of_sRunK (K := K43) (K3 := Spec3.none) (O := []) (D := [(8, decV d), (9, .int .i64 d.fault), (100011, .bool true)]) (j := 400) CT_ok rfl K43_ok Spec3OK.none (c := Try.f45.body.get rfl) Try.func45 rfl (Nat.le_of_ble_eq_true rfl) (by decide) rfl ok45 rfl ?_
    repeat' (first | with_reducible exact holds_none | with_reducible exact all_nil | with_reducible refine holds_some ?_ | with_reducible refine andP_intro ?_ ?_ | with_reducible refine condP_intro (fun h => ?_) (fun h => ?_) | with_reducible refine psP_intro ?_ | with_reducible refine all_append ?_ ?_ | with_reducible refine all_under (fun h => ?_) | with_reducible refine all_one ?_ | with_reducible refine all_cons ?_ ?_)
    all_goals first | exact (rfl : @Eq (List Value) _ _) | with_reducible exact le_goal (Nat.le_of_ble_eq_true rfl) | with_reducible exact fixd_goal rfl (Nat.le_of_ble_eq_true rfl) | (with_reducible refine hit_intro ?_ ?_ <;> (simp; done)) | exact (rfl : @Eq Value _ (Value.iface _ _)) | exact (rfl : @Eq Value _ (Value.agg _)) | (with_reducible refine veq_goal ?_; simp; done) | skip
    all_goals first | rfl | assumption | (refine stable_of ?_; repeat' (first | exact trivial | refine And.intro rfl ?_)) | (exact Leaf.post CT_ok rfl [] (by decide) simB_nil rfl rfl) | (exact Leaf.post CT_ok rfl [2] (by decide) (simB_leaf rfl rfl rfl rfl rfl (outB_inert _ _) simB_nil) rfl rfl) | (refine Con.lift rfl ho trivial rfl rfl all_nil (by simp)) | (refine Con.lift rfl ho (outB_own _ _) rfl rfl all_nil rfl) | (simp; done) | (simp; omega) | trace_state
theorem c45 (d : DecT) (b : Int) (hp : 0 ≤ b ∧ b < 256) : Fz CT 45 [decV d, .int .u8 b] (dresV (stepD d b)) := by
  have ho := o45 d b hp.1 hp.2
  rcases hst : stepD d b with ⟨c, cs, d'⟩
  rw [hst] at ho
  cases cs with
  | nil => exact Fz.of_own ho rfl all_nil
  | cons x xs =>
    have h1 : Fz CT 45 [decV d, .int .u8 b] (stR c (Value.iface (x :: xs).length (.agg (List.take ((x :: xs).length * 1) (List.drop 0 (outB .i64 (x :: xs)).cells)).toArray)) d') := by
      refine Fz.of_own ho rfl ?_
      repeat' (first | with_reducible exact holds_none | with_reducible exact all_nil | with_reducible refine holds_some ?_ | with_reducible refine andP_intro ?_ ?_ | with_reducible refine condP_intro (fun h => ?_) (fun h => ?_) | with_reducible refine psP_intro ?_ | with_reducible refine all_append ?_ ?_ | with_reducible refine all_under (fun h => ?_) | with_reducible refine all_one ?_ | with_reducible refine all_cons ?_ ?_)
      exact outB_goal rfl
    rw [outB_val] at h1
    exact h1
def K45 : Spec := Spec.add K43 45 (fam (fun (p : DecT × Int) => [decV p.1, .int .u8 p.2]) (fun v => (decD (v.getD 0 .nilFunc), intOf (v.getD 1 .nilFunc))) (fun (p : DecT × Int) => 0 ≤ p.2 ∧ p.2 < 256) (fun (p : DecT × Int) => dresV (stepD p.1 p.2)))
theorem K45_ok : SpecOK CT K45 := SpecOK.add K43_ok (fam_ok fun p hp => c45 p.1 p.2 hp)

theorem ok96 : codeOk CT Try.f96 (Try.f96.body.get rfl) = true := by kernel_rfl
theorem l96 (a b : List Int) (hab : a.length = b.length) (hl : a.length ≤ 1048576) : ∀ (n i : Nat), i + n = a.length → RunF CT Try.f96 (atLoop Try.f96 0) [(0, intsV .i64 a), (1, intsV .i64 b), (5, .int .i64 i)] [] (.bool (a.drop i == b.drop i)) := by
  intro n
  induction n with
  | zero =>
    intro i hi
    have hb := idx_ge (i := i) (n := a.length) (by omega)
    refine RunF.of_sRun (K := K45) (K3 := Spec3.none) (O := []) (D := []) (H := [.bool false]) CT_ok rfl K45_ok Spec3OK.none (c := Try.f96.body.get rfl) rfl ok96 400 rfl ?_ ?_
    · repeat' (first | refine condP_ff hb ?_ | with_reducible exact holds_none | with_reducible exact all_nil | with_reducible refine holds_some ?_ | with_reducible refine andP_intro ?_ ?_ | with_reducible refine condP_intro (fun h => ?_) (fun h => ?_) | with_reducible refine psP_intro ?_ | with_reducible refine all_append ?_ ?_ | with_reducible refine all_under (fun h => ?_) | with_reducible refine all_one ?_ | with_reducible refine all_cons ?_ ?_)
      all_goals first | exact (rfl : @Eq (List Value) _ _) | with_reducible exact le_goal (Nat.le_of_ble_eq_true rfl) | with_reducible exact fixd_goal rfl (Nat.le_of_ble_eq_true rfl) | (with_reducible refine hit_intro ?_ ?_ <;> (simp; done)) | exact (rfl : @Eq Value _ (Value.iface _ _)) | exact (rfl : @Eq Value _ (Value.agg _)) | (with_reducible refine veq_goal ?_; simp; done) | skip
    · rw [show a.drop i = [] from List.drop_eq_nil_of_le (by omega), show b.drop i = [] from List.drop_eq_nil_of_le (by omega)]
      exact vbool_ff hb rfl
  | succ n ih =>
    intro i hi
    have hlt : i < a.length := by omega
    have hlt' : i < b.length := by omega
    have hb := idx_lt hlt
    refine RunF.of_sRun (K := K45) (K3 := Spec3.none) (O := []) (D := [(20, .int .i64 a[i]), (24, .int .i64 b[i])]) (H := [.bool (a.drop (i + 1) == b.drop (i + 1))]) CT_ok rfl K45_ok Spec3OK.none (c := Try.f96.body.get rfl) rfl ok96 400 rfl ?_ ?_
    · repeat' (first | refine condP_tt hb ?_ | with_reducible exact holds_none | with_reducible exact all_nil | with_reducible refine holds_some ?_ | with_reducible refine andP_intro ?_ ?_ | with_reducible refine condP_intro (fun h => ?_) (fun h => ?_) | with_reducible refine psP_intro ?_ | with_reducible refine all_append ?_ ?_ | with_reducible refine all_under (fun h => ?_) | with_reducible refine all_one ?_ | with_reducible refine all_cons ?_ ?_)
      all_goals first | exact (rfl : @Eq (List Value) _ _) | with_reducible exact le_goal (Nat.le_of_ble_eq_true rfl) | with_reducible exact fixd_goal rfl (Nat.le_of_ble_eq_true rfl) | (with_reducible refine hit_intro ?_ ?_ <;> (simp; done)) | exact (rfl : @Eq Value _ (Value.iface _ _)) | exact (rfl : @Eq Value _ (Value.agg _)) | (with_reducible refine veq_goal ?_; simp; done) | skip
      · exact in_range hlt
      · exact load_ints (by decide) (by simpa using hlt)
      · rw [loaded (by decide)]; simp [hlt]
      · exact in_range hlt'
      · exact load_ints (by decide) (by simpa using hlt')
      · rw [loaded (by decide)]; simp [hlt']
      · have hih := ih (i + 1) (by omega)
        (refine RunF.norm0 rfl ?_ hih; (repeat' (first | with_reducible exact simT_nil | refine simT_cons rfl rfl ?_ ?_)); all_goals (try first | with_reducible rfl | with_reducible exact congrArg (Value.int .i64) (wrap_succ (by omega)) | exact (rfl : _ = Value.iface _ _) | exact (rfl : Value.int .i64 0 = _) | (simp; done)))
    · refine vbool_tt hb ?_
      have key : (a.drop i == b.drop i) = (a[i] == b[i] && (a.drop (i + 1) == b.drop (i + 1))) := by rw [List.drop_eq_getElem_cons hlt, List.drop_eq_getElem_cons hlt', List.cons_beq_cons]
      rw [key]
      simp only [bne]
      cases (a[i] == b[i]) <;> rfl
theorem c96 (a : List Int) (b : List Int) (hp : a.length ≤ 1048576 ∧ b.length ≤ 1048576) : Fz CT 96 [intsV .i64 a, intsV .i64 b] (.bool (a == b)) := by
  refine Fz.of_sRun (K := K45) (K3 := Spec3.none) (O := []) (D := []) (k := 400) (H := [.bool (a == b)]) CT_ok rfl K45_ok Spec3OK.none (c := Try.f96.body.get rfl) Try.func96 rfl (Nat.le_of_ble_eq_true rfl) (by decide) rfl ok96 rfl ?_ ?_
  · repeat' (first | with_reducible exact holds_none | with_reducible exact all_nil | with_reducible refine holds_some ?_ | with_reducible refine andP_intro ?_ ?_ | with_reducible refine condP_intro (fun h => ?_) (fun h => ?_) | with_reducible refine psP_intro ?_ | with_reducible refine all_append ?_ ?_ | with_reducible refine all_under (fun h => ?_) | with_reducible refine all_one ?_ | with_reducible refine all_cons ?_ ?_)
    all_goals first | exact (rfl : @Eq (List Value) _ _) | with_reducible exact le_goal (Nat.le_of_ble_eq_true rfl) | with_reducible exact fixd_goal rfl (Nat.le_of_ble_eq_true rfl) | (with_reducible refine hit_intro ?_ ?_ <;> (simp; done)) | exact (rfl : @Eq Value _ (Value.iface _ _)) | exact (rfl : @Eq Value _ (Value.agg _)) | (with_reducible refine veq_goal ?_; simp; done) | skip
    have h : a.length = b.length := by simp at h; omega
    have := l96 a b h hp.1 a.length 0 (by omega)
    (refine RunF.norm0 rfl ?_ this; (repeat' (first | with_reducible exact simT_nil | refine simT_cons rfl rfl ?_ ?_)); all_goals (try first | with_reducible rfl | with_reducible exact congrArg (Value.int .i64) (wrap_succ (by omega)) | exact (rfl : _ = Value.iface _ _) | exact (rfl : Value.int .i64 0 = _) | (simp; done)))
  · show Value.bool (bif ((a.length : Int) != (b.length : Int)) then false else (a == b)) = _
    cases h : ((a.length : Int) != (b.length : Int)) with
    | false => rfl
    | true =>
      have h : a ≠ b := by rintro rfl; simp at h
      simp [h]
def K96 : Spec := Spec.add K45 96 (fam (fun (p : (List Int) × (List Int)) => [intsV .i64 p.1, intsV .i64 p.2]) (fun v => (intsD (v.getD 0 .nilFunc), intsD (v.getD 1 .nilFunc))) (fun (p : (List Int) × (List Int)) => p.1.length ≤ 1048576 ∧ p.2.length ≤ 1048576) (fun (p : (List Int) × (List Int)) => .bool (p.1 == p.2)))
theorem K96_ok : SpecOK CT K96 := SpecOK.add K45_ok (fam_ok fun p hp => c96 p.1 p.2 hp)
theorem ok97 : codeOk CT Try.f97 (Try.f97.body.get rfl) = true := by kernel_rfl
theorem c97 (a : DecT) (b : DecT) : Fz CT 97 [decV a, decV b] (.bool (a.l == b.l && a.o == b.o && a.v == b.v)) := by
  refine Fz.of_sRun (K := K96) (K3 := Spec3.none) (O := []) (D := []) (k := 400) (H := []) CT_ok rfl K96_ok Spec3OK.none (c := Try.f97.body.get rfl) Try.func97 rfl (Nat.le_of_ble_eq_true rfl) (by decide) rfl ok97 rfl ?_ ?_
  · repeat' (first | with_reducible exact holds_none | with_reducible exact all_nil | with_reducible refine holds_some ?_ | with_reducible refine andP_intro ?_ ?_ | with_reducible refine condP_intro (fun h => ?_) (fun h => ?_) | with_reducible refine psP_intro ?_ | with_reducible refine all_append ?_ ?_ | with_reducible refine all_under (fun h => ?_) | with_reducible refine all_one ?_ | with_reducible refine all_cons ?_ ?_)
    all_goals first | exact (rfl : @Eq (List Value) _ _) | with_reducible exact le_goal (Nat.le_of_ble_eq_true rfl) | with_reducible exact fixd_goal rfl (Nat.le_of_ble_eq_true rfl) | (with_reducible refine hit_intro ?_ ?_ <;> (simp; done)) | exact (rfl : @Eq Value _ (Value.iface _ _)) | exact (rfl : @Eq Value _ (Value.agg _)) | (with_reducible refine veq_goal ?_; simp; done) | skip
  · simp [bne]
    grind
def K97 : Spec := Spec.add K96 97 (fam (fun (p : DecT × DecT) => [decV p.1, decV p.2]) (fun v => (decD (v.getD 0 .nilFunc), decD (v.getD 1 .nilFunc))) (fun (p : DecT × DecT) => True) (fun (p : DecT × DecT) => .bool (p.1.l == p.2.l && p.1.o == p.2.o && p.1.v == p.2.v)))
theorem K97_ok : SpecOK CT K97 := SpecOK.add K96_ok (fam_ok fun p hp => c97 p.1 p.2)
theorem ok46 : codeOk CT Try.f46 (Try.f46.body.get rfl) = true := by kernel_rfl
theorem c46 (a : Int × List Int × DecT) (b : Int × List Int × DecT) (hp : a.2.1.length ≤ 1048576 ∧ b = a) : Fz CT 46 [dresV a, dresV b] (.bool true) := by
  obtain ⟨hd, rfl⟩ := hp
  refine Fz.of_sRun (K := K97) (K3 := Spec3.none) (O := []) (D := [(11, intsV .i64 b.2.1), (13, intsV .i64 b.2.1), (14, .bool true), (17, decV b.2.2), (19, decV b.2.2), (20, .bool true)]) (k := 400) (H := []) CT_ok rfl K97_ok Spec3OK.none (c := Try.f46.body.get rfl) Try.func46 rfl (Nat.le_of_ble_eq_true rfl) (by decide) rfl ok46 rfl ?_ ?_
  · repeat' (first | with_reducible exact holds_none | with_reducible exact all_nil | with_reducible refine holds_some ?_ | with_reducible refine andP_intro ?_ ?_ | with_reducible refine condP_intro (fun h => ?_) (fun h => ?_) | with_reducible refine psP_intro ?_ | with_reducible refine all_append ?_ ?_ | with_reducible refine all_under (fun h => ?_) | with_reducible refine all_one ?_ | with_reducible refine all_cons ?_ ?_)
    all_goals first | exact (rfl : @Eq (List Value) _ _) | with_reducible exact le_goal (Nat.le_of_ble_eq_true rfl) | with_reducible exact fixd_goal rfl (Nat.le_of_ble_eq_true rfl) | (with_reducible refine hit_intro ?_ ?_ <;> (simp; done)) | exact (rfl : @Eq Value _ (Value.iface _ _)) | exact (rfl : @Eq Value _ (Value.agg _)) | (with_reducible refine veq_goal ?_; simp; done) | skip
    exact hit_of (b.2.1, b.2.1) rfl (by simp) ⟨hd, hd⟩
  · simp
def K46 : Spec := Spec.add K97 46 (fam (fun (p : (Int × List Int × DecT) × (Int × List Int × DecT)) => [dresV p.1, dresV p.2]) (fun v => (dresD (v.getD 0 .nilFunc), dresD (v.getD 1 .nilFunc))) (fun (p : (Int × List Int × DecT) × (Int × List Int × DecT)) => p.1.2.1.length ≤ 1048576 ∧ p.2 = p.1) (fun (p : (Int × List Int × DecT) × (Int × List Int × DecT)) => .bool true))
theorem K46_ok : SpecOK CT K46 := SpecOK.add K97_ok (fam_ok fun p hp => c46 p.1 p.2 hp)
theorem ok99 : codeOk CT Try.f99 (Try.f99.body.get rfl) = true := by kernel_rfl
def heldI : List Int → Int → Int
  | [], k => k
  | x :: xs, k => bif x != k then -1 else heldI xs (k + 1)
def markI : Nat → Int → List Int
  | 0, _ => []
  | n + 1, k => k :: markI n (k + 1)
@[simp] theorem markI_len : ∀ (n : Nat) (k : Int), (markI n k).length = n
  | 0, _ => rfl
  | n + 1, k => by simp [markI, markI_len n]
theorem heldI_mark : ∀ (n : Nat) (k : Int), heldI (markI n k) k = k + n
  | 0, k => by simp [heldI, markI]
  | n + 1, k => by
    simp only [markI, heldI, bne_self_eq_false, cond_false, heldI_mark n]
    push_cast
    omega
theorem l99 (d : List Int) : ∀ (n i : Nat) (k : Int), i + n = d.length → 0 ≤ k → k + n < 4611686018427387904 → i + n < 4611686018427387904 → RunF CT Try.f99 (atLoop Try.f99 0) [(0, intsV .i64 d), (1, .int .i64 k), (5, .int .i64 i)] [] (.int .i64 (heldI (d.drop i) k)) := by
  intro n
  induction n with
  | zero =>
    intro i k hi h0 h1 h2
    have hb := idx_ge (i := i) (n := d.length) (by omega)
    rw [show d.drop i = [] from List.drop_eq_nil_of_le (by omega), heldI]
    refine RunF.of_sRun (K := K46) (K3 := Spec3.none) (O := []) (D := []) (H := [.int .i64 k]) CT_ok rfl K46_ok Spec3OK.none (c := Try.f99.body.get rfl) rfl ok99 400 rfl ?_ ?_
    · repeat' (first | refine condP_ff hb ?_ | with_reducible exact holds_none | with_reducible exact all_nil | with_reducible refine holds_some ?_ | with_reducible refine andP_intro ?_ ?_ | with_reducible refine condP_intro (fun h => ?_) (fun h => ?_) | with_reducible refine psP_intro ?_ | with_reducible refine all_append ?_ ?_ | with_reducible refine all_under (fun h => ?_) | with_reducible refine all_one ?_ | with_reducible refine all_cons ?_ ?_)
      all_goals first | exact (rfl : @Eq (List Value) _ _) | with_reducible exact le_goal (Nat.le_of_ble_eq_true rfl) | with_reducible exact fixd_goal rfl (Nat.le_of_ble_eq_true rfl) | (with_reducible refine hit_intro ?_ ?_ <;> (simp; done)) | exact (rfl : @Eq Value _ (Value.iface _ _)) | exact (rfl : @Eq Value _ (Value.agg _)) | (with_reducible refine veq_goal ?_; simp; done) | skip
    · exact vint_ff hb rfl
  | succ n ih =>
    intro i k hi h0 h1 h2
    have hlt : i < d.length := by omega
    have hb := idx_lt hlt
    have hih := ih (i + 1) (k + 1) (by omega) (by omega) (by omega) (by omega)
    rw [List.drop_eq_getElem_cons hlt]
    refine RunF.of_sRun (K := K46) (K3 := Spec3.none) (O := []) (D := [(15, .int .i64 d[i]), (19, .int .i64 (k + 1))]) (H := [.int .i64 (heldI (d.drop (i + 1)) (k + 1))]) CT_ok rfl K46_ok Spec3OK.none (c := Try.f99.body.get rfl) rfl ok99 400 rfl ?_ ?_
    · repeat' (first | refine condP_tt hb ?_ | with_reducible exact holds_none | with_reducible exact all_nil | with_reducible refine holds_some ?_ | with_reducible refine andP_intro ?_ ?_ | with_reducible refine condP_intro (fun h => ?_) (fun h => ?_) | with_reducible refine psP_intro ?_ | with_reducible refine all_append ?_ ?_ | with_reducible refine all_under (fun h => ?_) | with_reducible refine all_one ?_ | with_reducible refine all_cons ?_ ?_)
      all_goals first | exact (rfl : @Eq (List Value) _ _) | with_reducible exact le_goal (Nat.le_of_ble_eq_true rfl) | with_reducible exact fixd_goal rfl (Nat.le_of_ble_eq_true rfl) | (with_reducible refine hit_intro ?_ ?_ <;> (simp; done)) | exact (rfl : @Eq Value _ (Value.iface _ _)) | exact (rfl : @Eq Value _ (Value.agg _)) | (with_reducible refine veq_goal ?_; simp; done) | skip
      all_goals first | exact in_range hlt | exact load_ints (by decide) (by simpa using hlt) | (rw [loaded (by decide)]; simp [hlt]; done) | skip
      · exact congrArg (Value.int .i64) (wrap64 (by omega) (by omega))
      · (refine RunF.norm0 rfl ?_ hih; (repeat' (first | with_reducible exact simT_nil | refine simT_cons rfl rfl ?_ ?_)); all_goals (try first | with_reducible rfl | with_reducible exact congrArg (Value.int .i64) (wrap_succ (by omega)) | exact (rfl : _ = Value.iface _ _) | exact (rfl : Value.int .i64 0 = _) | (simp; done)))
    · exact vint_tt hb rfl
theorem c99 (d : List Int) (k : Int) (hp : 0 ≤ k ∧ k + d.length < 4611686018427387904) : Fz CT 99 [intsV .i64 d, .int .i64 k] (.int .i64 (heldI d k)) := by
  have h1 := l99 d d.length 0 k (by omega) hp.1 hp.2 (by omega)
  refine Fz.of_sRun (K := K46) (K3 := Spec3.none) (O := []) (D := []) (k := 400) (H := [.int .i64 (heldI d k)]) CT_ok rfl K46_ok Spec3OK.none (c := Try.f99.body.get rfl) Try.func99 rfl (Nat.le_of_ble_eq_true rfl) (by decide) rfl ok99 rfl ?_ ?_
  · repeat' (first | with_reducible exact holds_none | with_reducible exact all_nil | with_reducible refine holds_some ?_ | with_reducible refine andP_intro ?_ ?_ | with_reducible refine condP_intro (fun h => ?_) (fun h => ?_) | with_reducible refine psP_intro ?_ | with_reducible refine all_append ?_ ?_ | with_reducible refine all_under (fun h => ?_) | with_reducible refine all_one ?_ | with_reducible refine all_cons ?_ ?_)
    all_goals first | exact (rfl : @Eq (List Value) _ _) | with_reducible exact le_goal (Nat.le_of_ble_eq_true rfl) | with_reducible exact fixd_goal rfl (Nat.le_of_ble_eq_true rfl) | (with_reducible refine hit_intro ?_ ?_ <;> (simp; done)) | exact (rfl : @Eq Value _ (Value.iface _ _)) | exact (rfl : @Eq Value _ (Value.agg _)) | (with_reducible refine veq_goal ?_; simp; done) | skip
    (refine RunF.norm0 rfl ?_ h1; (repeat' (first | with_reducible exact simT_nil | refine simT_cons rfl rfl ?_ ?_)); all_goals (try first | with_reducible rfl | with_reducible exact congrArg (Value.int .i64) (wrap_succ (by omega)) | exact (rfl : _ = Value.iface _ _) | exact (rfl : Value.int .i64 0 = _) | (simp; done)))
  · rfl
def K99 : Spec := Spec.add K46 99 (fam (fun (p : (List Int) × Int) => [intsV .i64 p.1, .int .i64 p.2]) (fun v => (intsD (v.getD 0 .nilFunc), intOf (v.getD 1 .nilFunc))) (fun (p : (List Int) × Int) => 0 ≤ p.2 ∧ p.2 + p.1.length < 4611686018427387904) (fun (p : (List Int) × Int) => .int .i64 (heldI p.1 p.2)))
theorem K99_ok : SpecOK CT K99 := SpecOK.add K46_ok (fam_ok fun p hp => c99 p.1 p.2 hp)
theorem heldI_ge : ∀ (d : List Int) (k : Int), 0 ≤ k → heldI d k = -1 ∨ 0 ≤ heldI d k
  | [], k, h => .inr h
  | x :: d, k, h => by
    unfold heldI
    cases x != k
    · exact heldI_ge d (k + 1) (by omega)
    · exact .inl rfl
theorem ok48 : codeOk CT Try.f48 (Try.f48.body.get rfl) = true := by kernel_rfl
theorem c48 (r : Int × List Int × DecT) (k : Int) (hp : 0 ≤ k ∧ k + r.2.1.length < 4611686018427387904) : Fz CT 48 [dresV r, .int .i64 k] (.int .i64 (heldI r.2.1 k)) := by
  refine Fz.of_sRun (K := K99) (K3 := Spec3.none) (O := []) (D := []) (k := 400) (H := []) CT_ok rfl K99_ok Spec3OK.none (c := Try.f48.body.get rfl) Try.func48 rfl (Nat.le_of_ble_eq_true rfl) (by decide) rfl ok48 rfl ?_ ?_
  · repeat' (first | with_reducible exact holds_none | with_reducible exact all_nil | with_reducible refine holds_some ?_ | with_reducible refine andP_intro ?_ ?_ | with_reducible refine condP_intro (fun h => ?_) (fun h => ?_) | with_reducible refine psP_intro ?_ | with_reducible refine all_append ?_ ?_ | with_reducible refine all_under (fun h => ?_) | with_reducible refine all_one ?_ | with_reducible refine all_cons ?_ ?_)
    all_goals first | exact (rfl : @Eq (List Value) _ _) | with_reducible exact le_goal (Nat.le_of_ble_eq_true rfl) | with_reducible exact fixd_goal rfl (Nat.le_of_ble_eq_true rfl) | (with_reducible refine hit_intro ?_ ?_ <;> (simp; done)) | exact (rfl : @Eq Value _ (Value.iface _ _)) | exact (rfl : @Eq Value _ (Value.agg _)) | (with_reducible refine veq_goal ?_; simp; done) | skip
    exact hit_of (r.2.1, k) rfl (by simp) hp
  · simp
    rcases heldI_ge r.2.1 k hp.1 with h | h
    · rw [h]; rfl
    · rw [decide_eq_false (by omega)]; rfl
def K48 : Spec := Spec.add K99 48 (fam (fun (p : (Int × List Int × DecT) × Int) => [dresV p.1, .int .i64 p.2]) (fun v => (dresD (v.getD 0 .nilFunc), intOf (v.getD 1 .nilFunc))) (fun (p : (Int × List Int × DecT) × Int) => 0 ≤ p.2 ∧ p.2 + p.1.2.1.length < 4611686018427387904) (fun (p : (Int × List Int × DecT) × Int) => .int .i64 (heldI p.1.2.1 p.2)))
theorem K48_ok : SpecOK CT K48 := SpecOK.add K99_ok (fam_ok fun p hp => c48 p.1 p.2 hp)

theorem ok98 : codeOk CT Try.f98 (Try.f98.body.get rfl) = true := by kernel_rfl
theorem lay_setI {c : List Int} {i : Nat} {x : Int} (h : i < c.length) : lay (c.map (Value.int .i64)) (0 + (i : Int).toNat * 1) [Value.int .i64 x] = (c.set i x).map (.int .i64) := by
  rw [Nat.zero_add, Nat.mul_one, Int.toNat_natCast, lay_eq _ _ _ (by simp; omega), List.map_set]
  simp [splice, List.set_eq_take_append_cons_drop, h]
theorem l98 (L : Nat) (k0 : Int) (hL : L < 4611686018427387904) (h00 : 0 ≤ k0) : ∀ (n i : Nat) (c : List Int) (k : Int), i + n = L → c.length = L → 0 ≤ k → k + n < 4611686018427387904 → Run CT 1 Try.f98 (atLoop Try.f98 0) [(0, .slice (some ⟨0, 0, none⟩) L L), (1, .int .i64 k), (5, .int .i64 i)] [⟨c.map (.int .i64), 1, true, true⟩] (.int .i64 (k + n)) [⟨(c.take i ++ markI n k).map (.int .i64), 1, true, true⟩] := by
  intro n
  induction n with
  | zero =>
    intro i c k hi hc hk hb0
    have hb := idx_ge (i := i) (n := L) (by omega)
    rw [show c.take i = c from List.take_of_length_le (by omega), markI, List.append_nil]
    refine RunK.of_sRunK (K := K48) (K3 := Spec3.none) (O := []) (D := []) CT_ok rfl K48_ok Spec3OK.none (c := Try.f98.body.get rfl) rfl ok98 400 rfl ?_
    repeat' (first | refine condP_ff hb ?_ | with_reducible exact holds_none | with_reducible exact all_nil | with_reducible refine holds_some ?_ | with_reducible refine andP_intro ?_ ?_ | with_reducible refine condP_intro (fun h => ?_) (fun h => ?_) | with_reducible refine psP_intro ?_ | with_reducible refine all_append ?_ ?_ | with_reducible refine all_under (fun h => ?_) | with_reducible refine all_one ?_ | with_reducible refine all_cons ?_ ?_)
    all_goals first | exact (rfl : @Eq (List Value) _ _) | with_reducible exact le_goal (Nat.le_of_ble_eq_true rfl) | with_reducible exact fixd_goal rfl (Nat.le_of_ble_eq_true rfl) | (with_reducible refine hit_intro ?_ ?_ <;> (simp; done)) | exact (rfl : @Eq Value _ (Value.iface _ _)) | exact (rfl : @Eq Value _ (Value.agg _)) | (with_reducible refine veq_goal ?_; simp; done) | skip
    rw [show k + ((0 : Nat) : Int) = k by omega]
    exact Leaf.same CT_ok rfl
  | succ n ih =>
    intro i c k hi hc hk hb0
    have hlt : i < L := by omega
    have hb := idx_lt hlt
    have hih := ih (i + 1) (c.set i (k)) (k + 1) (by omega) (by simpa using hc) (by omega) (by omega)
    rw [take_set_mark (by omega), show k + 1 + (n : Int) = k + ((n + 1 : Nat) : Int) by omega] at hih
    refine RunK.of_sRunK (K := K48) (K3 := Spec3.none) (O := []) (D := [(17, .int .i64 (k + 1))]) CT_ok rfl K48_ok Spec3OK.none (c := Try.f98.body.get rfl) rfl ok98 400 rfl ?_
    repeat' (first | refine condP_tt hb ?_ | with_reducible exact holds_none | with_reducible exact all_nil | with_reducible refine holds_some ?_ | with_reducible refine andP_intro ?_ ?_ | with_reducible refine condP_intro (fun h => ?_) (fun h => ?_) | with_reducible refine psP_intro ?_ | with_reducible refine all_append ?_ ?_ | with_reducible refine all_under (fun h => ?_) | with_reducible refine all_one ?_ | with_reducible refine all_cons ?_ ?_)
    all_goals first | exact (rfl : @Eq (List Value) _ _) | with_reducible exact le_goal (Nat.le_of_ble_eq_true rfl) | with_reducible exact fixd_goal rfl (Nat.le_of_ble_eq_true rfl) | (with_reducible refine hit_intro ?_ ?_ <;> (simp; done)) | exact (rfl : @Eq Value _ (Value.iface _ _)) | exact (rfl : @Eq Value _ (Value.agg _)) | (with_reducible refine veq_goal ?_; simp; done) | skip
    · exact in_range hlt
    · show 0 + (i : Int).toNat * 1 + 1 ≤ (c.map (Value.int .i64)).length
      simp
      omega
    · exact congrArg (Value.int .i64) (wrap64 (by omega) (by omega))
    · (refine RunK.keep ?_ ?_ hih; focus (repeat' (first | with_reducible exact look_nil | refine look_cons rfl ?_ ?_)) <;> (first | with_reducible rfl | with_reducible exact congrArg (Value.int .i64) (wrap_succ (by omega)) | exact (rfl : _ = Value.iface _ _) | exact (rfl : _ = Value.slice _ _ _) | exact (rfl : Value.int .i64 0 = _) | (simp; done)))
      exact congrArg (fun l : List Value => [(⟨l, 1, true, true⟩ : Blk)]) (lay_setI (by omega))
/-- The slice in its own block, marked. -/
theorem m98 (c : List Int) (k : Int) (hk : 0 ≤ k) (hb : k + c.length < 4611686018427387904) : Con CT 98 [.slice (some ⟨0, 0, none⟩) c.length c.length, .int .i64 k] [⟨c.map (.int .i64), 1, true, true⟩] (.int .i64 (k + c.length)) [⟨(markI c.length k).map (.int .i64), 1, true, true⟩] := by
  have h1 := l98 c.length k (by omega) hk c.length 0 c k (by omega) rfl hk hb
  refine Con.of_sRunK (K := K48) (K3 := Spec3.none) (O := []) (D := []) (j := 400) CT_ok rfl K48_ok Spec3OK.none (c := Try.f98.body.get rfl) Try.func98 rfl (Nat.le_of_ble_eq_true rfl) (by decide) ?_ ?_ rfl ok98 rfl ?_
  · exact grow1 rfl rfl rfl
  · exact closed1 (all_inert_int _ _)
  · repeat' (first | with_reducible exact holds_none | with_reducible exact all_nil | with_reducible refine holds_some ?_ | with_reducible refine andP_intro ?_ ?_ | with_reducible refine condP_intro (fun h => ?_) (fun h => ?_) | with_reducible refine psP_intro ?_ | with_reducible refine all_append ?_ ?_ | with_reducible refine all_under (fun h => ?_) | with_reducible refine all_one ?_ | with_reducible refine all_cons ?_ ?_)
    all_goals first | exact (rfl : @Eq (List Value) _ _) | with_reducible exact le_goal (Nat.le_of_ble_eq_true rfl) | with_reducible exact fixd_goal rfl (Nat.le_of_ble_eq_true rfl) | (with_reducible refine hit_intro ?_ ?_ <;> (simp; done)) | exact (rfl : @Eq Value _ (Value.iface _ _)) | exact (rfl : @Eq Value _ (Value.agg _)) | (with_reducible refine veq_goal ?_; simp; done) | skip
    (refine RunK.keep ?_ ?_ h1; focus (repeat' (first | with_reducible exact look_nil | refine look_cons rfl ?_ ?_)) <;> (first | with_reducible rfl | with_reducible exact congrArg (Value.int .i64) (wrap_succ (by omega)) | exact (rfl : _ = Value.iface _ _) | exact (rfl : _ = Value.slice _ _ _) | exact (rfl : Value.int .i64 0 = _) | (simp; done)))
    rfl
theorem m98' (c : List Int) (k : Int) (m : Mem) (n : Nat) (hk : 0 ≤ k) (hb : k + c.length < 4611686018427387904) (hm : m[n]? = some (outB .i64 c)) : Con CT 98 [.slice (some ⟨n, 0, none⟩) c.length c.length, .int .i64 k] m (.int .i64 (k + c.length)) (m.set n (outB .i64 (markI c.length k))) := by
  refine Con.frame1 rfl (m98 c k hk hb) hm ?_ (all_inert_int _ _) (all_inert_int _ _) ?_ (Real.slice (i := 0) rfl)
  · exact renL_sound (k := 64) rfl
  · exact renV_sound (k := 64) rfl
theorem c98 (d : List Int) (k : Int) (hp : d = []) : Fz CT 98 [intsV .i64 d, .int .i64 k] (.int .i64 k) := by
  subst hp
  have h1 : RunF CT Try.f98 (atLoop Try.f98 0) [(0, intsV .i64 []), (1, .int .i64 k), (5, .int .i64 0)] [] (.int .i64 k) := by
    refine RunF.of_sRun (K := K48) (K3 := Spec3.none) (O := []) (D := [(100009, .bool false)]) (H := []) CT_ok rfl K48_ok Spec3OK.none (c := Try.f98.body.get rfl) rfl ok98 400 rfl ?_ ?_
    · repeat' (first | with_reducible exact holds_none | with_reducible exact all_nil | with_reducible refine holds_some ?_ | with_reducible refine andP_intro ?_ ?_ | with_reducible refine condP_intro (fun h => ?_) (fun h => ?_) | with_reducible refine psP_intro ?_ | with_reducible refine all_append ?_ ?_ | with_reducible refine all_under (fun h => ?_) | with_reducible refine all_one ?_ | with_reducible refine all_cons ?_ ?_)
      all_goals first | exact (rfl : @Eq (List Value) _ _) | with_reducible exact le_goal (Nat.le_of_ble_eq_true rfl) | with_reducible exact fixd_goal rfl (Nat.le_of_ble_eq_true rfl) | (with_reducible refine hit_intro ?_ ?_ <;> (simp; done)) | exact (rfl : @Eq Value _ (Value.iface _ _)) | exact (rfl : @Eq Value _ (Value.agg _)) | (with_reducible refine veq_goal ?_; simp; done) | skip
      rfl
    · rfl
  refine Fz.of_sRun (K := K48) (K3 := Spec3.none) (O := []) (D := []) (k := 400) (H := [.int .i64 k]) CT_ok rfl K48_ok Spec3OK.none (c := Try.f98.body.get rfl) Try.func98 rfl (Nat.le_of_ble_eq_true rfl) (by decide) rfl ok98 rfl ?_ ?_
  · repeat' (first | with_reducible exact holds_none | with_reducible exact all_nil | with_reducible refine holds_some ?_ | with_reducible refine andP_intro ?_ ?_ | with_reducible refine condP_intro (fun h => ?_) (fun h => ?_) | with_reducible refine psP_intro ?_ | with_reducible refine all_append ?_ ?_ | with_reducible refine all_under (fun h => ?_) | with_reducible refine all_one ?_ | with_reducible refine all_cons ?_ ?_)
    all_goals first | exact (rfl : @Eq (List Value) _ _) | with_reducible exact le_goal (Nat.le_of_ble_eq_true rfl) | with_reducible exact fixd_goal rfl (Nat.le_of_ble_eq_true rfl) | (with_reducible refine hit_intro ?_ ?_ <;> (simp; done)) | exact (rfl : @Eq Value _ (Value.iface _ _)) | exact (rfl : @Eq Value _ (Value.agg _)) | (with_reducible refine veq_goal ?_; simp; done) | skip
    (refine RunF.norm0 rfl ?_ h1; (repeat' (first | with_reducible exact simT_nil | refine simT_cons rfl rfl ?_ ?_)); all_goals (try first | with_reducible rfl | with_reducible exact congrArg (Value.int .i64) (wrap_succ (by omega)) | exact (rfl : _ = Value.iface _ _) | exact (rfl : Value.int .i64 0 = _) | (simp; done)))
  · rfl
def K98 : Spec := Spec.add K48 98 (fam (fun (p : (List Int) × Int) => [intsV .i64 p.1, .int .i64 p.2]) (fun v => (intsD (v.getD 0 .nilFunc), intOf (v.getD 1 .nilFunc))) (fun (p : (List Int) × Int) => p.1 = []) (fun (p : (List Int) × Int) => .int .i64 p.2))
theorem K98_ok : SpecOK CT K98 := SpecOK.add K48_ok (fam_ok fun p hp => c98 p.1 p.2 hp)
theorem ok47 : codeOk CT Try.f47 (Try.f47.body.get rfl) = true := by kernel_rfl
theorem m47 (r : Int) (c : List Int) (d' : DecT) (k : Int) (hk : 0 ≤ k) (hb : k + c.length < 4611686018427387904) : Con CT 47 [stR r (.slice (some ⟨0, 0, none⟩) c.length c.length) d', .int .i64 k] [outB .i64 c] (.int .i64 (k + c.length)) [outB .i64 (markI c.length k)] := by
  refine Con.of_sRunK (K := K98) (K3 := (Spec3.none.add 98 (conE CT 98 (fun _ m => .int .i64 (k + c.length)) (fun _ m => m.set 0 (outB .i64 (markI c.length k)))))) (O := [(1, 98)]) (D := []) (j := 400) CT_ok rfl K98_ok (by repeat' (first | exact Spec3OK.none | refine Spec3OK.add ?_ conE_ok)) (c := Try.f47.body.get rfl) Try.func47 rfl (Nat.le_of_ble_eq_true rfl) (by decide) ?_ ?_ rfl ok47 rfl ?_
  · exact grow1 rfl rfl rfl
  · exact closed1 (all_inert_int _ _)
  · repeat' (first | with_reducible exact holds_none | with_reducible exact all_nil | with_reducible refine holds_some ?_ | with_reducible refine andP_intro ?_ ?_ | with_reducible refine condP_intro (fun h => ?_) (fun h => ?_) | with_reducible refine psP_intro ?_ | with_reducible refine all_append ?_ ?_ | with_reducible refine all_under (fun h => ?_) | with_reducible refine all_one ?_ | with_reducible refine all_cons ?_ ?_)
    all_goals first | exact (rfl : @Eq (List Value) _ _) | with_reducible exact le_goal (Nat.le_of_ble_eq_true rfl) | with_reducible exact fixd_goal rfl (Nat.le_of_ble_eq_true rfl) | (with_reducible refine hit_intro ?_ ?_ <;> (simp; done)) | exact (rfl : @Eq Value _ (Value.iface _ _)) | exact (rfl : @Eq Value _ (Value.agg _)) | (with_reducible refine veq_goal ?_; simp; done) | skip
    · exact m98' c k _ 0 hk hb rfl
    · exact Leaf.post1 CT_ok rfl rfl (all_inert_int _ _) rfl
theorem m47' (r : Int) (c : List Int) (d' : DecT) (k : Int) (m : Mem) (n : Nat) (hk : 0 ≤ k) (hb : k + c.length < 4611686018427387904) (hm : m[n]? = some (outB .i64 c)) : Con CT 47 [stR r (.slice (some ⟨n, 0, none⟩) c.length c.length) d', .int .i64 k] m (.int .i64 (k + c.length)) (m.set n (outB .i64 (markI c.length k))) := by
  refine Con.frame1 rfl (m47 r c d' k hk hb) hm ?_ (all_inert_int _ _) (all_inert_int _ _) ?_ (Real.field (i := 0) (j := 1) rfl rfl)
  · exact renL_sound (k := 64) rfl
  · exact renV_sound (k := 64) rfl
theorem c47 (r : Int × List Int × DecT) (k : Int) (hp : r.2.1 = []) : Fz CT 47 [dresV r, .int .i64 k] (.int .i64 k) := by
  refine Fz.of_sRun (K := K98) (K3 := Spec3.none) (O := []) (D := []) (k := 400) (H := []) CT_ok rfl K98_ok Spec3OK.none (c := Try.f47.body.get rfl) Try.func47 rfl (Nat.le_of_ble_eq_true rfl) (by decide) rfl ok47 rfl ?_ ?_
  · repeat' (first | with_reducible exact holds_none | with_reducible exact all_nil | with_reducible refine holds_some ?_ | with_reducible refine andP_intro ?_ ?_ | with_reducible refine condP_intro (fun h => ?_) (fun h => ?_) | with_reducible refine psP_intro ?_ | with_reducible refine all_append ?_ ?_ | with_reducible refine all_under (fun h => ?_) | with_reducible refine all_one ?_ | with_reducible refine all_cons ?_ ?_)
    all_goals first | exact (rfl : @Eq (List Value) _ _) | with_reducible exact le_goal (Nat.le_of_ble_eq_true rfl) | with_reducible exact fixd_goal rfl (Nat.le_of_ble_eq_true rfl) | (with_reducible refine hit_intro ?_ ?_ <;> (simp; done)) | exact (rfl : @Eq Value _ (Value.iface _ _)) | exact (rfl : @Eq Value _ (Value.agg _)) | (with_reducible refine veq_goal ?_; simp; done) | skip
    exact hit_of (r.2.1, k) rfl (by simp) hp
  · rfl
def K47 : Spec := Spec.add K98 47 (fam (fun (p : (Int × List Int × DecT) × Int) => [dresV p.1, .int .i64 p.2]) (fun v => (dresD (v.getD 0 .nilFunc), intOf (v.getD 1 .nilFunc))) (fun (p : (Int × List Int × DecT) × Int) => p.1.2.1 = []) (fun (p : (Int × List Int × DecT) × Int) => .int .i64 p.2))
theorem K47_ok : SpecOK CT K47 := SpecOK.add K98_ok (fam_ok fun p hp => c47 p.1 p.2 hp)


@[simp] theorem take_markI_len (n : Nat) (k : Int) (f : Int → Value) : List.take n (List.map f (markI n k)) = List.map f (markI n k) := List.take_of_length_le (by simp)
abbrev mDec (d : DecT) : Blk := ⟨(decV d).cells.toList, 0, true, true⟩
abbrev mDR (r : Int × List Int × DecT) : Blk := ⟨(dresV r).cells.toList, 0, true, true⟩
abbrev mOD (c : Int) (v : Value) (d : DecT) : Blk := ⟨(stR c v d).cells.toList, 0, true, true⟩
theorem ok10 : codeOk CT Try.f10 (Try.f10.body.get rfl) = true := by kernel_rfl
theorem law10 (d : DecT) (b : Int) (hb0 : 0 ≤ b) (hb1 : b < 256) : Fz CT 10 [decV d, .int .u8 b] (.bool true) := by
  have ho := o45 d b hb0 hb1
  have hlen : (stepD d b).2.1.length ≤ 2 := by
    have := hearD_len d b
    unfold stepD
    cases d.fault == 0 <;> simp <;> omega
  rcases hst : stepD d b with ⟨c, cs, d'⟩
  rw [hst] at ho hlen
  simp only at ho hlen
  cases cs with
  | nil =>
    have q45 : Con CT 45 [decV d, .int .u8 b] [mDec d, mDR (c, [], d')] (stR c (.slice none 0 0) d') [mDec d, mDR (c, [], d')] := by
      refine Con.lift (m := [mDec d, mDR (c, [], d')]) rfl ho trivial rfl rfl ?_ rfl
      repeat' (first | with_reducible exact holds_none | with_reducible exact all_nil | with_reducible refine holds_some ?_ | with_reducible refine andP_intro ?_ ?_ | with_reducible refine condP_intro (fun h => ?_) (fun h => ?_) | with_reducible refine psP_intro ?_ | with_reducible refine all_append ?_ ?_ | with_reducible refine all_under (fun h => ?_) | with_reducible refine all_one ?_ | with_reducible refine all_cons ?_ ?_)
      all_goals first | exact (rfl : @Eq (List Value) _ _) | with_reducible exact le_goal (Nat.le_of_ble_eq_true rfl) | with_reducible exact fixd_goal rfl (Nat.le_of_ble_eq_true rfl) | (with_reducible refine hit_intro ?_ ?_ <;> (simp; done)) | exact (rfl : @Eq Value _ (Value.iface _ _)) | exact (rfl : @Eq Value _ (Value.agg _)) | (with_reducible refine veq_goal ?_; simp; done) | skip
    refine Fz.of_sRun (K := K47) (K3 := (Spec3.none.add 45 (conE CT 45 (fun _ _ => stR c (.slice none 0 0) d') (fun _ _ => [mDec d, mDR (c, [], d')])))) (O := [(2, 45)]) (D := [(10, decV d), (11, decV d), (13, dresV (c, [], d')), (14, decV d), (15, decV d), (17, stR c (.slice none 0 0) d'), (18, stR c (.slice none 0 0) d'), (19, dresV (c, [], d')), (20, .bool true), (22, stR c (.slice none 0 0) d'), (24, .int .i64 1), (25, stR c (.slice none 0 0) d'), (27, .int .i64 1), (33, decV d), (34, decV d), (36, dresV (c, [], d')), (37, dresV (c, [], d')), (38, dresV (c, [], d')), (39, .bool true), (41, stR c (.slice none 0 0) d'), (43, .int .i64 1), (100021, .bool false), (100029, .bool false), (100032, .bool false), (100040, .bool false), (100045, .bool false), (100048, .bool false)]) (k := 400) (H := []) CT_ok rfl K47_ok (by repeat' (first | exact Spec3OK.none | refine Spec3OK.add ?_ conE_ok)) (c := Try.f10.body.get rfl) Try.func10 rfl (Nat.le_of_ble_eq_true rfl) (by decide) rfl ok10 rfl ?_ ?_
    · repeat' (first | with_reducible exact holds_none | with_reducible exact all_nil | with_reducible refine holds_some ?_ | with_reducible refine andP_intro ?_ ?_ | with_reducible refine condP_intro (fun h => ?_) (fun h => ?_) | with_reducible refine psP_intro ?_ | with_reducible refine all_append ?_ ?_ | with_reducible refine all_under (fun h => ?_) | with_reducible refine all_one ?_ | with_reducible refine all_cons ?_ ?_)
      all_goals first | exact (rfl : @Eq (List Value) _ _) | with_reducible exact le_goal (Nat.le_of_ble_eq_true rfl) | with_reducible exact fixd_goal rfl (Nat.le_of_ble_eq_true rfl) | (with_reducible refine hit_intro ?_ ?_ <;> (simp; done)) | exact (rfl : @Eq Value _ (Value.iface _ _)) | exact (rfl : @Eq Value _ (Value.agg _)) | (with_reducible refine veq_goal ?_; simp; done) | skip
      all_goals first | rfl | exact q45 | exact hit_of (d, b) rfl (by simp) ⟨hb0, hb1⟩ | exact hit_of ((c, [], d'), (c, [], d')) (by simp [outB]) (by simp) ⟨by simp, rfl⟩ | exact hit_of ((c, [], d'), 1) (by simp) (by simp) rfl | exact hit_of ((c, [], d'), 1) (by simp) (by simp) (by simp) | (simp [hst, heldI]; done) | trace_state
    · rfl
  | cons x xs =>
    have q45 : Con CT 45 [decV d, .int .u8 b] [mDec d, mDR (c, x :: xs, d')] (stR c (ownAt 2 (x :: xs).length) d') [mDec d, mDR (c, x :: xs, d'), outB .i64 (x :: xs)] := by
      refine Con.lift (m := [mDec d, mDR (c, x :: xs, d')]) rfl ho (outB_own _ _) rfl rfl ?_ rfl
      repeat' (first | with_reducible exact holds_none | with_reducible exact all_nil | with_reducible refine holds_some ?_ | with_reducible refine andP_intro ?_ ?_ | with_reducible refine condP_intro (fun h => ?_) (fun h => ?_) | with_reducible refine psP_intro ?_ | with_reducible refine all_append ?_ ?_ | with_reducible refine all_under (fun h => ?_) | with_reducible refine all_one ?_ | with_reducible refine all_cons ?_ ?_)
      all_goals first | exact (rfl : @Eq (List Value) _ _) | with_reducible exact le_goal (Nat.le_of_ble_eq_true rfl) | with_reducible exact fixd_goal rfl (Nat.le_of_ble_eq_true rfl) | (with_reducible refine hit_intro ?_ ?_ <;> (simp; done)) | exact (rfl : @Eq Value _ (Value.iface _ _)) | exact (rfl : @Eq Value _ (Value.agg _)) | (with_reducible refine veq_goal ?_; simp; done) | skip
    have q47 : Con CT 47 [stR c (ownAt 2 (x :: xs).length) d', .int .i64 1] [mDec d, mDR (c, x :: xs, d'), outB .i64 (x :: xs), mOD c (ownAt 2 (x :: xs).length) d'] (.int .i64 (1 + (x :: xs).length)) [mDec d, mDR (c, x :: xs, d'), outB .i64 (markI (x :: xs).length 1), mOD c (ownAt 2 (x :: xs).length) d'] := m47' c (x :: xs) d' 1 _ 2 (by omega) (by omega) rfl
    refine Fz.of_sRun (K := K47) (K3 := ((Spec3.none.add 45 (conE CT 45 (fun _ _ => stR c (ownAt 2 (x :: xs).length) d') (fun _ _ => [mDec d, mDR (c, x :: xs, d'), outB .i64 (x :: xs)]))).add 47 (conE CT 47 (fun _ _ => .int .i64 (1 + (x :: xs).length)) (fun _ _ => [mDec d, mDR (c, x :: xs, d'), outB .i64 (markI (x :: xs).length 1), mOD c (ownAt 2 (x :: xs).length) d'])))) (O := [(2, 45), (6, 47)]) (D := [(10, decV d), (11, decV d), (13, dresV (c, x :: xs, d')), (14, decV d), (15, decV d), (17, stR c (ownAt 2 (x :: xs).length) d'), (18, stR c (ownAt 2 (x :: xs).length) d'), (19, dresV (c, x :: xs, d')), (20, .bool true), (22, stR c (ownAt 2 (x :: xs).length) d'), (24, .int .i64 (1 + (x :: xs).length)), (25, stR c (ownAt 2 (x :: xs).length) d'), (27, .int .i64 (1 + (x :: xs).length)), (33, decV d), (34, decV d), (36, dresV (c, x :: xs, d')), (37, dresV (c, x :: xs, d')), (38, dresV (c, x :: xs, d')), (39, .bool true), (41, stR c (ownAt 2 (x :: xs).length) d'), (43, .int .i64 (1 + (x :: xs).length)), (100021, .bool false), (100029, .bool false), (100032, .bool false), (100040, .bool false), (100045, .bool false), (100048, .bool false)]) (k := 400) (H := []) CT_ok rfl K47_ok (by repeat' (first | exact Spec3OK.none | refine Spec3OK.add ?_ conE_ok)) (c := Try.f10.body.get rfl) Try.func10 rfl (Nat.le_of_ble_eq_true rfl) (by decide) rfl ok10 rfl ?_ ?_
    · repeat' (first | with_reducible exact holds_none | with_reducible exact all_nil | with_reducible refine holds_some ?_ | with_reducible refine andP_intro ?_ ?_ | with_reducible refine condP_intro (fun h => ?_) (fun h => ?_) | with_reducible refine psP_intro ?_ | with_reducible refine all_append ?_ ?_ | with_reducible refine all_under (fun h => ?_) | with_reducible refine all_one ?_ | with_reducible refine all_cons ?_ ?_)
      all_goals first | exact (rfl : @Eq (List Value) _ _) | with_reducible exact le_goal (Nat.le_of_ble_eq_true rfl) | with_reducible exact fixd_goal rfl (Nat.le_of_ble_eq_true rfl) | (with_reducible refine hit_intro ?_ ?_ <;> (simp; done)) | exact (rfl : @Eq Value _ (Value.iface _ _)) | exact (rfl : @Eq Value _ (Value.agg _)) | (with_reducible refine veq_goal ?_; simp; done) | skip
      all_goals first | rfl | exact q45 | exact q47 | exact outB_goal (by simp) | exact hit_of (d, b) rfl (by simp) ⟨hb0, hb1⟩ | exact hit_of ((c, x :: xs, d'), (c, x :: xs, d')) (by simp [outB]) (by simp) ⟨by simp at hlen ⊢; omega, rfl⟩ | exact hit_of ((c, markI (x :: xs).length 1, d'), 1) (by simp [outB]) (by simp) ⟨by omega, by simp at hlen ⊢; omega⟩ | (simp [hst, outB, heldI_mark]; done) | (simp [outB, heldI_mark]; omega) | trace_state
    · rfl

theorem wf_u8 {n : Int} (h : wfI .u8 n) : 0 ≤ n ∧ n < 256 := by
  have := wfI_u8 h
  omega
theorem typed_dec {cs : List Value} (h : Typed CT 62 cs) : ∃ d : DecT, cs = [.int .i64 d.l, .int .i64 d.o, .int .i64 d.v] := by
  obtain ⟨h1, h2⟩ := typed_struct h rfl
  match cs, h1, h2 with
  | [a, b, c], _, h2 =>
    obtain ⟨a, rfl, _⟩ := typed_int (h2 (0, 2) (by simp)) rfl
    obtain ⟨b, rfl, _⟩ := typed_int (h2 (1, 2) (by simp)) rfl
    obtain ⟨c, rfl, _⟩ := typed_int (h2 (2, 2) (by simp)) rfl
    exact ⟨⟨a, b, c⟩, rfl⟩
theorem all_FnExactStepDecoder : ∀ xs, TypedAll CT [62, 5] xs → Fz CT 10 xs (.bool true)
  | [a, b], h => by
    obtain ⟨cs, rfl, hw⟩ : ∃ cs : Array Value, a = .agg cs ∧ Typed CT 62 cs.toList := h.1
    obtain ⟨d, hw⟩ := typed_dec hw
    obtain ⟨b, rfl, hb⟩ := typed_int h.2.1 rfl
    obtain ⟨cs⟩ := cs
    simp only at hw
    subst hw
    obtain ⟨hb0, hb1⟩ := wf_u8 hb
    exact law10 d b hb0 hb1
  | [], h => h.elim
  | [_], h => h.2.elim
  | _ :: _ :: _ :: _, h => h.2.2.elim
end Go.Ab
