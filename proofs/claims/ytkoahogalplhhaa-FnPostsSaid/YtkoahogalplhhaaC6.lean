/- The law FnExactQueueSize, at all arguments. -/
import Derived.Test.YtkoahogalplhhaaC5
namespace Go.Ab
open Go.Proofs
set_option maxRecDepth 100000
set_option linter.unusedVariables false
set_option linter.unusedSimpArgs false
abbrev resW (r : Int × Int) : Value := .agg #[.int .i64 r.1, .int .i64 r.2]
def resD (v : Value) : Int × Int := (intOf (cellV v 0), intOf (cellV v 1))
@[simp] theorem resD_agg (a b : Value) : resD (.agg #[a, b]) = (intOf a, intOf b) := rfl
theorem c18 (a : Int × Int) (b : Int × Int) : Fz CT 18 [resW a, resW b] (.bool (a.1 == b.1 && a.2 == b.2)) := c18' a.1 a.2 b.1 b.2
def K18 : Spec := Spec.add K22 18 (fam (fun (p : (Int × Int) × (Int × Int)) => [resW p.1, resW p.2]) (fun v => (resD (v.getD 0 .nilFunc), resD (v.getD 1 .nilFunc))) (fun (p : (Int × Int) × (Int × Int)) => True) (fun (p : (Int × Int) × (Int × Int)) => .bool (p.1.1 == p.2.1 && p.1.2 == p.2.2)))
theorem K18_ok : SpecOK CT K18 := SpecOK.add K22_ok (fam_ok fun p hp => c18 p.1 p.2)

def LineT.sized (l : LineT) : Int × Int := (l.fault, bif l.fault == 0 then (l.size : Int) else 0)
theorem ok39 : codeOk CT Try.f39 (Try.f39.body.get rfl) = true := by kernel_rfl
theorem c39 (l : LineT) (hp : l.small) : Fz CT 39 [lineV l] (resW l.sized) := by
  refine Fz.of_sRun (K := K18) (K3 := Spec3.none) (O := []) (D := [(4, .int .i64 l.fault), (9, .int .i64 l.size)]) (k := 400) (H := []) CT_ok rfl K18_ok Spec3OK.none (c := Try.f39.body.get rfl) Try.func39 rfl (Nat.le_of_ble_eq_true rfl) (by decide) rfl ok39 rfl ?_ ?_
  · repeat' (first | with_reducible exact holds_none | with_reducible exact all_nil | with_reducible refine holds_some ?_ | with_reducible refine andP_intro ?_ ?_ | with_reducible refine condP_intro (fun h => ?_) (fun h => ?_) | with_reducible refine psP_intro ?_ | with_reducible refine all_append ?_ ?_ | with_reducible refine all_under (fun h => ?_) | with_reducible refine all_one ?_ | with_reducible refine all_cons ?_ ?_)
    all_goals first | exact (rfl : @Eq (List Value) _ _) | with_reducible exact le_goal (Nat.le_of_ble_eq_true rfl) | with_reducible exact fixd_goal rfl (Nat.le_of_ble_eq_true rfl) | (with_reducible refine hit_intro ?_ ?_ <;> (simp; done)) | exact (rfl : @Eq Value _ (Value.iface _ _)) | exact (rfl : @Eq Value _ (Value.agg _)) | (with_reducible refine veq_goal ?_; simp; done) | skip
    all_goals exact hit_of l rfl (by simp) hp
  · simp [LineT.sized]
    grind
def K39 : Spec := Spec.add K18 39 (fam (fun (p : LineT) => [lineV p]) (fun v => lineD (v.getD 0 .nilFunc)) (fun (p : LineT) => p.small) (fun (p : LineT) => resW p.sized))
theorem K39_ok : SpecOK CT K39 := SpecOK.add K18_ok (fam_ok fun p hp => c39 p hp)
theorem ok40 : codeOk CT Try.f40 (Try.f40.body.get rfl) = true := by kernel_rfl
theorem c40 (l : LineT) (hp : l.small) : Fz CT 40 [lineV l] (resW l.sized) := by
  refine Fz.of_sRun (K := K39) (K3 := Spec3.none) (O := []) (D := [(4, lineV l), (5, .int .i64 l.fault), (10, lineV l), (11, .int .i64 l.size)]) (k := 400) (H := []) CT_ok rfl K39_ok Spec3OK.none (c := Try.f40.body.get rfl) Try.func40 rfl (Nat.le_of_ble_eq_true rfl) (by decide) rfl ok40 rfl ?_ ?_
  · repeat' (first | with_reducible exact holds_none | with_reducible exact all_nil | with_reducible refine holds_some ?_ | with_reducible refine andP_intro ?_ ?_ | with_reducible refine condP_intro (fun h => ?_) (fun h => ?_) | with_reducible refine psP_intro ?_ | with_reducible refine all_append ?_ ?_ | with_reducible refine all_under (fun h => ?_) | with_reducible refine all_one ?_ | with_reducible refine all_cons ?_ ?_)
    all_goals first | exact (rfl : @Eq (List Value) _ _) | with_reducible exact le_goal (Nat.le_of_ble_eq_true rfl) | with_reducible exact fixd_goal rfl (Nat.le_of_ble_eq_true rfl) | (with_reducible refine hit_intro ?_ ?_ <;> (simp; done)) | exact (rfl : @Eq Value _ (Value.iface _ _)) | exact (rfl : @Eq Value _ (Value.agg _)) | (with_reducible refine veq_goal ?_; simp; done) | skip
    all_goals exact hit_of l rfl (by simp) hp
  · simp [LineT.sized]
    grind
def K40 : Spec := Spec.add K39 40 (fam (fun (p : LineT) => [lineV p]) (fun v => lineD (v.getD 0 .nilFunc)) (fun (p : LineT) => p.small) (fun (p : LineT) => resW p.sized))
theorem K40_ok : SpecOK CT K40 := SpecOK.add K39_ok (fam_ok fun p hp => c40 p hp)

theorem ok8 : codeOk CT Try.f8 (Try.f8.body.get rfl) = true := by kernel_rfl
theorem law8 (l : LineT) (hl : l.wf) : Fz CT 8 [lineV l] (.bool true) := by
  cases hs : decide (szLine l 1048576 < 0) with
  | true =>
    refine Fz.of_sRun (K := K40) (K3 := Spec3.none) (O := []) (D := [(7, lineV l), (9, .int .i64 (szLine l 1048576)), (12, lineV l), (13, lineV l), (14, resW l.sized), (15, lineV l), (16, lineV l), (17, lineV l), (18, resW l.sized), (19, resW l.sized), (20, resW l.sized), (21, .bool true), (23, lineV l), (24, lineV l), (25, lineV l), (26, .bool true)]) (k := 400) (H := []) CT_ok rfl K40_ok Spec3OK.none (c := Try.f8.body.get rfl) Try.func8 rfl (Nat.le_of_ble_eq_true rfl) (by decide) rfl ok8 rfl ?_ ?_
    · repeat' (first | refine condP_tt hs ?_ | with_reducible exact holds_none | with_reducible exact all_nil | with_reducible refine holds_some ?_ | with_reducible refine andP_intro ?_ ?_ | with_reducible refine condP_intro (fun h => ?_) (fun h => ?_) | with_reducible refine psP_intro ?_ | with_reducible refine all_append ?_ ?_ | with_reducible refine all_under (fun h => ?_) | with_reducible refine all_one ?_ | with_reducible refine all_cons ?_ ?_)
      all_goals first | exact (rfl : @Eq (List Value) _ _) | with_reducible exact le_goal (Nat.le_of_ble_eq_true rfl) | with_reducible exact fixd_goal rfl (Nat.le_of_ble_eq_true rfl) | (with_reducible refine hit_intro ?_ ?_ <;> (simp; done)) | exact (rfl : @Eq Value _ (Value.iface _ _)) | exact (rfl : @Eq Value _ (Value.agg _)) | (with_reducible refine veq_goal ?_; simp; done) | skip
      exact hit_of (l, 1048576) rfl (by simp) ⟨hl, by simp, by simp⟩
    · exact vbool_tt hs rfl
  | false =>
    have hsm : l.small := szLine_small (by simpa using hs)
    refine Fz.of_sRun (K := K40) (K3 := Spec3.none) (O := []) (D := [(7, lineV l), (9, .int .i64 (szLine l 1048576)), (12, lineV l), (13, lineV l), (14, resW l.sized), (15, lineV l), (16, lineV l), (17, lineV l), (18, resW l.sized), (19, resW l.sized), (20, resW l.sized), (21, .bool true), (23, lineV l), (24, lineV l), (25, lineV l), (26, .bool true)]) (k := 400) (H := []) CT_ok rfl K40_ok Spec3OK.none (c := Try.f8.body.get rfl) Try.func8 rfl (Nat.le_of_ble_eq_true rfl) (by decide) rfl ok8 rfl ?_ ?_
    · repeat' (first | refine condP_ff hs ?_ | with_reducible exact holds_none | with_reducible exact all_nil | with_reducible refine holds_some ?_ | with_reducible refine andP_intro ?_ ?_ | with_reducible refine condP_intro (fun h => ?_) (fun h => ?_) | with_reducible refine psP_intro ?_ | with_reducible refine all_append ?_ ?_ | with_reducible refine all_under (fun h => ?_) | with_reducible refine all_one ?_ | with_reducible refine all_cons ?_ ?_)
      all_goals first | exact (rfl : @Eq (List Value) _ _) | with_reducible exact le_goal (Nat.le_of_ble_eq_true rfl) | with_reducible exact fixd_goal rfl (Nat.le_of_ble_eq_true rfl) | (with_reducible refine hit_intro ?_ ?_ <;> (simp; done)) | exact (rfl : @Eq Value _ (Value.iface _ _)) | exact (rfl : @Eq Value _ (Value.agg _)) | (with_reducible refine veq_goal ?_; simp; done) | skip
      all_goals first | exact hit_of (l, 1048576) rfl (by simp) ⟨hl, by simp, by simp⟩ | exact hit_of l rfl (by simp) hsm | exact hit_of (l, l) rfl (by simp) ⟨hsm, hsm⟩ | exact hit_of (l.sized, l.sized) rfl (by simp) trivial | simp [LineT.eqv_refl]
    · refine vbool_ff hs ?_
      simp
theorem all_FnExactQueueSize : ∀ xs, TypedAll CT [32] xs → Fz CT 8 xs (.bool true)
  | [a], h => by
    obtain ⟨l, rfl, hl, _⟩ := typed_line h.1
    exact law8 l hl
  | [], h => h.elim
  | _ :: _ :: _, h => h.2.elim
end Go.Ab
