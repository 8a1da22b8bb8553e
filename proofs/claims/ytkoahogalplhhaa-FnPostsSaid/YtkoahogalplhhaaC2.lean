/- Contracts: sizes of lines, their faults. -/
import Derived.Test.YtkoahogalplhhaaC1
namespace Go.Ab
open Go.Proofs
set_option maxRecDepth 100000
set_option linter.unusedVariables false
set_option linter.unusedSimpArgs false

/-- How many there are in all. -/
def sumL (r : List (List Int)) : Nat := (r.map List.length).sum
theorem sumL_drop {r : List (List Int)} {i : Nat} (h : i < r.length) : sumL (r.drop i) = r[i].length + sumL (r.drop (i + 1)) := by
  unfold sumL
  rw [List.drop_eq_getElem_cons h, List.map_cons, List.sum_cons]
theorem sumL_le (r : List (List Int)) (i : Nat) : sumL (r.drop i) ≤ sumL r := by
  induction r generalizing i with
  | nil => simp [sumL]
  | cons x r ih =>
    cases i with
    | zero => simp
    | succ i =>
      have := ih i
      simp only [List.drop_succ_cons]
      simp only [sumL, List.map_cons, List.sum_cons] at *
      omega
def LineT.size (l : LineT) : Nat := l.e.length + sumL l.r
def LineT.small (l : LineT) : Prop := l.r.length ≤ 1048576 ∧ l.size ≤ 1048576

theorem ok81 : codeOk CT Try.f81 (Try.f81.body.get rfl) = true := by kernel_rfl
theorem l81 (l : LineT) (hl : l.small) : ∀ (n i : Nat) (s : Nat), i + n = l.r.length → s + sumL (l.r.drop i) ≤ 1048576 → RunF CT Try.f81 (atLoop Try.f81 0) [(3, .int .i64 s), (10, bssV l.r), (11, .int .i64 l.r.length), (12, .int .i64 i)] [] (.int .i64 ((s + sumL (l.r.drop i) : Nat) : Int)) := by
  intro n
  induction n with
  | zero =>
    intro i s hi hs
    have hb := idx_ge (i := i) (n := l.r.length) (by omega)
    refine RunF.of_sRun (K := K79) (K3 := Spec3.none) (O := []) (D := []) (H := [.int .i64 0]) CT_ok rfl K79_ok Spec3OK.none (c := Try.f81.body.get rfl) rfl ok81 400 rfl ?_ ?_
    · repeat' (first | refine condP_ff hb ?_ | with_reducible exact holds_none | with_reducible exact all_nil | with_reducible refine holds_some ?_ | with_reducible refine andP_intro ?_ ?_ | with_reducible refine condP_intro (fun h => ?_) (fun h => ?_) | with_reducible refine psP_intro ?_ | with_reducible refine all_append ?_ ?_ | with_reducible refine all_under (fun h => ?_) | with_reducible refine all_one ?_ | with_reducible refine all_cons ?_ ?_)
      all_goals first | exact (rfl : @Eq (List Value) _ _) | with_reducible exact le_goal (Nat.le_of_ble_eq_true rfl) | with_reducible exact fixd_goal rfl (Nat.le_of_ble_eq_true rfl) | (with_reducible refine hit_intro ?_ ?_ <;> (simp; done)) | exact (rfl : @Eq Value _ (Value.iface _ _)) | exact (rfl : @Eq Value _ (Value.agg _)) | (with_reducible refine veq_goal ?_; simp; done) | skip
    · rw [show l.r.drop i = [] from List.drop_eq_nil_of_le (by omega)]
      exact vint_ff hb rfl
  | succ n ih =>
    intro i s hi hs
    have hlt : i < l.r.length := by omega
    have hb := idx_lt hlt
    have hsum := sumL_drop hlt
    have h1 := hl.1
    refine RunF.of_sRun (K := K79) (K3 := Spec3.none) (O := []) (D := []) (H := [.int .i64 ((s + sumL (l.r.drop i) : Nat) : Int)]) CT_ok rfl K79_ok Spec3OK.none (c := Try.f81.body.get rfl) rfl ok81 400 rfl ?_ ?_
    · repeat' (first | refine condP_tt hb ?_ | with_reducible exact holds_none | with_reducible exact all_nil | with_reducible refine holds_some ?_ | with_reducible refine andP_intro ?_ ?_ | with_reducible refine condP_intro (fun h => ?_) (fun h => ?_) | with_reducible refine psP_intro ?_ | with_reducible refine all_append ?_ ?_ | with_reducible refine all_under (fun h => ?_) | with_reducible refine all_one ?_ | with_reducible refine all_cons ?_ ?_)
      all_goals first | exact (rfl : @Eq (List Value) _ _) | with_reducible exact le_goal (Nat.le_of_ble_eq_true rfl) | with_reducible exact fixd_goal rfl (Nat.le_of_ble_eq_true rfl) | (with_reducible refine hit_intro ?_ ?_ <;> (simp; done)) | exact (rfl : @Eq Value _ (Value.iface _ _)) | exact (rfl : @Eq Value _ (Value.agg _)) | (with_reducible refine veq_goal ?_; simp; done) | skip
      · exact in_range hlt
      · exact load_bss (r := l.r) (by decide) (by simpa using hlt)
      · have hih := ih (i + 1) (s + (l.r[i]).length) (by omega) (by omega)
        rw [Nat.add_assoc, ← hsum] at hih
        (refine RunF.norm0 rfl ?_ hih; (repeat' (first | with_reducible exact simT_nil | refine simT_cons rfl rfl ?_ ?_)); all_goals (try first | with_reducible rfl | with_reducible exact congrArg (Value.int .i64) (wrap_succ (by omega)) | exact (rfl : _ = Value.iface _ _) | exact (rfl : Value.int .i64 0 = _) | (simp; done)))
        · exact congrArg (Value.int .i64) ((congrArg (fun x => IntKind.i64.wrap ((s : Int) + (lenS x : Int))) (loaded_bss (r := l.r) (by decide) (by simpa using hlt))).trans (by simp [hlt]; rw [wrap64 (by omega) (by omega)]))
    · exact vint_tt hb rfl
theorem c81 (l : LineT) (hp : l.small) : Fz CT 81 [lineV l] (.int .i64 l.size) := by
  have h1 := hp.1
  have h2 := hp.2
  unfold LineT.size at h2
  refine Fz.of_sRun (K := K79) (K3 := Spec3.none) (O := []) (D := []) (k := 400) (H := [.int .i64 l.size]) CT_ok rfl K79_ok Spec3OK.none (c := Try.f81.body.get rfl) Try.func81 rfl (Nat.le_of_ble_eq_true rfl) (by decide) rfl ok81 rfl ?_ ?_
  · repeat' (first | with_reducible exact holds_none | with_reducible exact all_nil | with_reducible refine holds_some ?_ | with_reducible refine andP_intro ?_ ?_ | with_reducible refine condP_intro (fun h => ?_) (fun h => ?_) | with_reducible refine psP_intro ?_ | with_reducible refine all_append ?_ ?_ | with_reducible refine all_under (fun h => ?_) | with_reducible refine all_one ?_ | with_reducible refine all_cons ?_ ?_)
    all_goals first | exact (rfl : @Eq (List Value) _ _) | with_reducible exact le_goal (Nat.le_of_ble_eq_true rfl) | with_reducible exact fixd_goal rfl (Nat.le_of_ble_eq_true rfl) | (with_reducible refine hit_intro ?_ ?_ <;> (simp; done)) | exact (rfl : @Eq Value _ (Value.iface _ _)) | exact (rfl : @Eq Value _ (Value.agg _)) | (with_reducible refine veq_goal ?_; simp; done) | skip
    have := l81 l hp l.r.length 0 l.e.length (by omega) (by simpa using h2)
    (refine RunF.norm0 rfl ?_ this; (repeat' (first | with_reducible exact simT_nil | refine simT_cons rfl rfl ?_ ?_)); all_goals (try first | with_reducible rfl | with_reducible exact congrArg (Value.int .i64) (wrap_succ (by omega)) | exact (rfl : _ = Value.iface _ _) | exact (rfl : Value.int .i64 0 = _) | (simp; done)))
  · rfl
def K81 : Spec := Spec.add K79 81 (fam (fun (p : LineT) => [lineV p]) (fun v => lineD (v.getD 0 .nilFunc)) (fun (p : LineT) => p.small) (fun (p : LineT) => .int .i64 p.size))
theorem K81_ok : SpecOK CT K81 := SpecOK.add K79_ok (fam_ok fun p hp => c81 p hp)

theorem ok90 : codeOk CT Try.f90 (Try.f90.body.get rfl) = true := by kernel_rfl
theorem l90 (l : LineT) (hl : l.small) : ∀ (n i : Nat) (s : Nat), i + n = l.r.length → s + sumL (l.r.drop i) ≤ 1048576 → RunF CT Try.f90 (atLoop Try.f90 0) [(0, lineP l), (3, .int .i64 s), (4, .int .i64 i)] [] (.int .i64 ((s + sumL (l.r.drop i) : Nat) : Int)) := by
  intro n
  induction n with
  | zero =>
    intro i s hi hs
    have hb := idx_ge (i := i) (n := l.r.length) (by omega)
    refine RunF.of_sRun (K := K81) (K3 := Spec3.none) (O := []) (D := []) (H := [.int .i64 0]) CT_ok rfl K81_ok Spec3OK.none (c := Try.f90.body.get rfl) rfl ok90 400 rfl ?_ ?_
    · repeat' (first | refine condP_ff hb ?_ | with_reducible exact holds_none | with_reducible exact all_nil | with_reducible refine holds_some ?_ | with_reducible refine andP_intro ?_ ?_ | with_reducible refine condP_intro (fun h => ?_) (fun h => ?_) | with_reducible refine psP_intro ?_ | with_reducible refine all_append ?_ ?_ | with_reducible refine all_under (fun h => ?_) | with_reducible refine all_one ?_ | with_reducible refine all_cons ?_ ?_)
      all_goals first | exact (rfl : @Eq (List Value) _ _) | with_reducible exact le_goal (Nat.le_of_ble_eq_true rfl) | with_reducible exact fixd_goal rfl (Nat.le_of_ble_eq_true rfl) | (with_reducible refine hit_intro ?_ ?_ <;> (simp; done)) | exact (rfl : @Eq Value _ (Value.iface _ _)) | exact (rfl : @Eq Value _ (Value.agg _)) | (with_reducible refine veq_goal ?_; simp; done) | skip
    · rw [show l.r.drop i = [] from List.drop_eq_nil_of_le (by omega)]
      exact vint_ff hb rfl
  | succ n ih =>
    intro i s hi hs
    have hlt : i < l.r.length := by omega
    have hb := idx_lt hlt
    have hsum := sumL_drop hlt
    have h1 := hl.1
    refine RunF.of_sRun (K := K81) (K3 := Spec3.none) (O := []) (D := []) (H := [.int .i64 ((s + sumL (l.r.drop i) : Nat) : Int)]) CT_ok rfl K81_ok Spec3OK.none (c := Try.f90.body.get rfl) rfl ok90 400 rfl ?_ ?_
    · repeat' (first | refine condP_tt hb ?_ | with_reducible exact holds_none | with_reducible exact all_nil | with_reducible refine holds_some ?_ | with_reducible refine andP_intro ?_ ?_ | with_reducible refine condP_intro (fun h => ?_) (fun h => ?_) | with_reducible refine psP_intro ?_ | with_reducible refine all_append ?_ ?_ | with_reducible refine all_under (fun h => ?_) | with_reducible refine all_one ?_ | with_reducible refine all_cons ?_ ?_)
      all_goals first | exact (rfl : @Eq (List Value) _ _) | with_reducible exact le_goal (Nat.le_of_ble_eq_true rfl) | with_reducible exact fixd_goal rfl (Nat.le_of_ble_eq_true rfl) | (with_reducible refine hit_intro ?_ ?_ <;> (simp; done)) | exact (rfl : @Eq Value _ (Value.iface _ _)) | exact (rfl : @Eq Value _ (Value.agg _)) | (with_reducible refine veq_goal ?_; simp; done) | skip
      · exact in_range hlt
      · exact load_bss (r := l.r) (by decide) (by simpa using hlt)
      · have hih := ih (i + 1) (s + (l.r[i]).length) (by omega) (by omega)
        rw [Nat.add_assoc, ← hsum] at hih
        (refine RunF.norm0 rfl ?_ hih; (repeat' (first | with_reducible exact simT_nil | refine simT_cons rfl rfl ?_ ?_)); all_goals (try first | with_reducible rfl | with_reducible exact congrArg (Value.int .i64) (wrap_succ (by omega)) | exact (rfl : _ = Value.iface _ _) | exact (rfl : Value.int .i64 0 = _) | (simp; done)))
        · exact congrArg (Value.int .i64) ((congrArg (fun x => IntKind.i64.wrap ((s : Int) + (lenS x : Int))) (loaded_bss (r := l.r) (by decide) (by simpa using hlt))).trans (by simp [hlt]; rw [wrap64 (by omega) (by omega)]))
    · exact vint_tt hb rfl
theorem c90 (l : LineT) (hp : l.small) : Fz CT 90 [lineP l] (.int .i64 l.size) := by
  have h1 := hp.1
  have h2 := hp.2
  unfold LineT.size at h2
  refine Fz.of_sRun (K := K81) (K3 := Spec3.none) (O := []) (D := []) (k := 400) (H := [.int .i64 l.size]) CT_ok rfl K81_ok Spec3OK.none (c := Try.f90.body.get rfl) Try.func90 rfl (Nat.le_of_ble_eq_true rfl) (by decide) rfl ok90 rfl ?_ ?_
  · repeat' (first | with_reducible exact holds_none | with_reducible exact all_nil | with_reducible refine holds_some ?_ | with_reducible refine andP_intro ?_ ?_ | with_reducible refine condP_intro (fun h => ?_) (fun h => ?_) | with_reducible refine psP_intro ?_ | with_reducible refine all_append ?_ ?_ | with_reducible refine all_under (fun h => ?_) | with_reducible refine all_one ?_ | with_reducible refine all_cons ?_ ?_)
    all_goals first | exact (rfl : @Eq (List Value) _ _) | with_reducible exact le_goal (Nat.le_of_ble_eq_true rfl) | with_reducible exact fixd_goal rfl (Nat.le_of_ble_eq_true rfl) | (with_reducible refine hit_intro ?_ ?_ <;> (simp; done)) | exact (rfl : @Eq Value _ (Value.iface _ _)) | exact (rfl : @Eq Value _ (Value.agg _)) | (with_reducible refine veq_goal ?_; simp; done) | skip
    have := l90 l hp l.r.length 0 l.e.length (by omega) (by simpa using h2)
    (refine RunF.norm0 rfl ?_ this; (repeat' (first | with_reducible exact simT_nil | refine simT_cons rfl rfl ?_ ?_)); all_goals (try first | with_reducible rfl | with_reducible exact congrArg (Value.int .i64) (wrap_succ (by omega)) | exact (rfl : _ = Value.iface _ _) | exact (rfl : Value.int .i64 0 = _) | (simp; done)))
  · rfl
def K90 : Spec := Spec.add K81 90 (fam (fun (p : LineT) => [lineP p]) (fun v => lineD (v.getD 0 .nilFunc)) (fun (p : LineT) => p.small) (fun (p : LineT) => .int .i64 p.size))
theorem K90_ok : SpecOK CT K90 := SpecOK.add K81_ok (fam_ok fun p hp => c90 p hp)

/-- The code of a line. -/
def LineT.fault (l : LineT) : Int := bif decide (l.r.length ≤ 40) && decide (l.size ≤ 40) then (bif decide (0 ≤ l.br) && decide (l.br ≤ 999) then 0 else 3) else 2
theorem ok78 : codeOk CT Try.f78 (Try.f78.body.get rfl) = true := by kernel_rfl
theorem c78 (l : LineT) (hp : l.small) : Fz CT 78 [lineP l] (.int .i64 l.fault) := by
  refine Fz.of_sRun (K := K90) (K3 := Spec3.none) (O := []) (D := []) (k := 400) (H := []) CT_ok rfl K90_ok Spec3OK.none (c := Try.f78.body.get rfl) Try.func78 rfl (Nat.le_of_ble_eq_true rfl) (by decide) rfl ok78 rfl ?_ ?_
  · repeat' (first | with_reducible exact holds_none | with_reducible exact all_nil | with_reducible refine holds_some ?_ | with_reducible refine andP_intro ?_ ?_ | with_reducible refine condP_intro (fun h => ?_) (fun h => ?_) | with_reducible refine psP_intro ?_ | with_reducible refine all_append ?_ ?_ | with_reducible refine all_under (fun h => ?_) | with_reducible refine all_one ?_ | with_reducible refine all_cons ?_ ?_)
    all_goals first | exact (rfl : @Eq (List Value) _ _) | with_reducible exact le_goal (Nat.le_of_ble_eq_true rfl) | with_reducible exact fixd_goal rfl (Nat.le_of_ble_eq_true rfl) | (with_reducible refine hit_intro ?_ ?_ <;> (simp; done)) | exact (rfl : @Eq Value _ (Value.iface _ _)) | exact (rfl : @Eq Value _ (Value.agg _)) | (with_reducible refine veq_goal ?_; simp; done) | skip
    all_goals (with_reducible refine hit_intro (by simp) ?_; simpa using hp)
  · simp [LineT.fault]
    grind
def K78 : Spec := Spec.add K90 78 (fam (fun (p : LineT) => [lineP p]) (fun v => lineD (v.getD 0 .nilFunc)) (fun (p : LineT) => p.small) (fun (p : LineT) => .int .i64 p.fault))
theorem K78_ok : SpecOK CT K78 := SpecOK.add K90_ok (fam_ok fun p hp => c78 p hp)

theorem ok25 : codeOk CT Try.f25 (Try.f25.body.get rfl) = true := by kernel_rfl
theorem c25 (l : LineT) (hp : l.small) : Fz CT 25 [lineV l] (.int .i64 l.fault) := by
  refine Fz.of_sRun (K := K78) (K3 := Spec3.none) (O := []) (D := []) (k := 400) (H := []) CT_ok rfl K78_ok Spec3OK.none (c := Try.f25.body.get rfl) Try.func25 rfl (Nat.le_of_ble_eq_true rfl) (by decide) rfl ok25 rfl ?_ ?_
  · repeat' (first | with_reducible exact holds_none | with_reducible exact all_nil | with_reducible refine holds_some ?_ | with_reducible refine andP_intro ?_ ?_ | with_reducible refine condP_intro (fun h => ?_) (fun h => ?_) | with_reducible refine psP_intro ?_ | with_reducible refine all_append ?_ ?_ | with_reducible refine all_under (fun h => ?_) | with_reducible refine all_one ?_ | with_reducible refine all_cons ?_ ?_)
    all_goals first | exact (rfl : @Eq (List Value) _ _) | with_reducible exact le_goal (Nat.le_of_ble_eq_true rfl) | with_reducible exact fixd_goal rfl (Nat.le_of_ble_eq_true rfl) | (with_reducible refine hit_intro ?_ ?_ <;> (simp; done)) | exact (rfl : @Eq Value _ (Value.iface _ _)) | exact (rfl : @Eq Value _ (Value.agg _)) | (with_reducible refine veq_goal ?_; simp; done) | skip
    all_goals (with_reducible refine hit_intro (by simp) ?_; simpa using hp)
  · simp
def K25 : Spec := Spec.add K78 25 (fam (fun (p : LineT) => [lineV p]) (fun v => lineD (v.getD 0 .nilFunc)) (fun (p : LineT) => p.small) (fun (p : LineT) => .int .i64 p.fault))
theorem K25_ok : SpecOK CT K25 := SpecOK.add K78_ok (fam_ok fun p hp => c25 p hp)

theorem ok26 : codeOk CT Try.f26 (Try.f26.body.get rfl) = true := by kernel_rfl
theorem c26 (l : LineT) (hp : l.small) : Fz CT 26 [lineV l] (.int .i64 l.fault) := by
  refine Fz.of_sRun (K := K25) (K3 := Spec3.none) (O := []) (D := []) (k := 400) (H := []) CT_ok rfl K25_ok Spec3OK.none (c := Try.f26.body.get rfl) Try.func26 rfl (Nat.le_of_ble_eq_true rfl) (by decide) rfl ok26 rfl ?_ ?_
  · repeat' (first | with_reducible exact holds_none | with_reducible exact all_nil | with_reducible refine holds_some ?_ | with_reducible refine andP_intro ?_ ?_ | with_reducible refine condP_intro (fun h => ?_) (fun h => ?_) | with_reducible refine psP_intro ?_ | with_reducible refine all_append ?_ ?_ | with_reducible refine all_under (fun h => ?_) | with_reducible refine all_one ?_ | with_reducible refine all_cons ?_ ?_)
    all_goals first | exact (rfl : @Eq (List Value) _ _) | with_reducible exact le_goal (Nat.le_of_ble_eq_true rfl) | with_reducible exact fixd_goal rfl (Nat.le_of_ble_eq_true rfl) | (with_reducible refine hit_intro ?_ ?_ <;> (simp; done)) | exact (rfl : @Eq Value _ (Value.iface _ _)) | exact (rfl : @Eq Value _ (Value.agg _)) | (with_reducible refine veq_goal ?_; simp; done) | skip
    · with_reducible refine hit_intro (by simp) ?_
      simpa using hp
  · simp
    simp [LineT.fault, firstOf]
    grind
def K26 : Spec := Spec.add K25 26 (fam (fun (p : LineT) => [lineV p]) (fun v => lineD (v.getD 0 .nilFunc)) (fun (p : LineT) => p.small) (fun (p : LineT) => .int .i64 p.fault))
theorem K26_ok : SpecOK CT K26 := SpecOK.add K25_ok (fam_ok fun p hp => c26 p hp)
end Go.Ab
