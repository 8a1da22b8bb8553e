/- The law FnExactEventFault, at all arguments. -/
import Derived.Test.YtkoahogalplhhaaC8
namespace Go.Ab
open Go.Proofs
set_option maxRecDepth 100000
set_option linter.unusedVariables false
set_option linter.unusedSimpArgs false
structure EventT where
  kind : Int
  who : Int
  key : Int
  on : Bool
  data : List Int
  n : Int
  way : WayT
abbrev eventV (e : EventT) : Value := .agg #[.int .i64 e.kind, .int .i64 e.who, .int .i64 e.key, .bool e.on, intsV .u8 e.data, .int .i64 e.n, .int .i64 e.way.f, .int .i64 e.way.e, .int .i64 e.way.k, .int .i64 e.way.w, .int .i64 e.way.n, .int .i64 e.way.b, .int .i64 e.way.x]
abbrev eventP (e : EventT) : Value := roP [.int .i64 e.kind, .int .i64 e.who, .int .i64 e.key, .bool e.on, intsV .u8 e.data, .int .i64 e.n, .int .i64 e.way.f, .int .i64 e.way.e, .int .i64 e.way.k, .int .i64 e.way.w, .int .i64 e.way.n, .int .i64 e.way.b, .int .i64 e.way.x]
def eventD (v : Value) : EventT := ⟨intOf (cellV v 0), intOf (cellV v 1), intOf (cellV v 2), boolOf (cellV v 3), intsD (cellV v 4), intOf (cellV v 5), ⟨intOf (cellV v 6), intOf (cellV v 7), intOf (cellV v 8), intOf (cellV v 9), intOf (cellV v 10), intOf (cellV v 11), intOf (cellV v 12)⟩⟩
@[simp] theorem eventD_agg (a b c d e f g h i j k l m : Value) : eventD (.agg #[a, b, c, d, e, f, g, h, i, j, k, l, m]) = ⟨intOf a, intOf b, intOf c, boolOf d, intsD e, intOf f, ⟨intOf g, intOf h, intOf i, intOf j, intOf k, intOf l, intOf m⟩⟩ := rfl
@[simp] theorem eventD_tuple (n : Nat) (a b c d e f g h i j k l m : Value) : eventD (.iface n (.tuple #[a, b, c, d, e, f, g, h, i, j, k, l, m])) = ⟨intOf a, intOf b, intOf c, boolOf d, intsD e, intOf f, ⟨intOf g, intOf h, intOf i, intOf j, intOf k, intOf l, intOf m⟩⟩ := rfl
@[simp] theorem event_eta (e : EventT) : (⟨e.kind, e.who, e.key, e.on, e.data, e.n, e.way⟩ : EventT) = e := rfl
def WayT.zero (w : WayT) : Bool := w.f == 0 && w.e == 0 && w.k == 0 && w.w == 0 && w.n == 0 && w.b == 0 && w.x == 0
/-- Only what its kind has. -/
def EventT.form (e : EventT) : Bool :=
  decide (1 ≤ e.kind) && decide (e.kind ≤ 7) && ((e.kind != 1 && e.kind != 6) || e.who == 0) && (e.kind == 1 || e.key == 0) && (e.kind == 3 || e.n == 0) &&
    ((e.kind == 1 || e.kind == 6 || e.kind == 7) || !e.on) && (e.kind == 2 || (e.data.length : Int) == 0) && (e.kind == 4 || e.way.zero)
theorem ok88 : codeOk CT Try.f88 (Try.f88.body.get rfl) = true := by kernel_rfl
theorem c88 (e : EventT) : Fz CT 88 [eventV e] (.bool e.form) := by
  refine Fz.of_sRun (K := K54) (K3 := Spec3.none) (O := []) (D := [(7, .int .i64 e.kind), (11, .int .i64 e.kind), (15, .int .i64 e.kind), (19, .int .i64 e.kind), (23, .int .i64 e.kind), (28, .int .i64 e.kind), (34, .int .i64 e.who), (39, .int .i64 e.kind), (43, .int .i64 e.key), (49, .int .i64 e.kind), (53, .int .i64 e.n), (62, .bool e.on), (68, .int .i64 e.kind), (72, intsV .u8 e.data), (79, .int .i64 e.kind), (83, wayV e.way)]) (k := 400) (H := []) CT_ok rfl K54_ok Spec3OK.none (c := Try.f88.body.get rfl) Try.func88 rfl (Nat.le_of_ble_eq_true rfl) (by decide) rfl ok88 rfl ?_ ?_
  · repeat' (first | with_reducible exact holds_none | with_reducible exact all_nil | with_reducible refine holds_some ?_ | with_reducible refine andP_intro ?_ ?_ | with_reducible refine condP_intro (fun h => ?_) (fun h => ?_) | with_reducible refine psP_intro ?_ | with_reducible refine all_append ?_ ?_ | with_reducible refine all_under (fun h => ?_) | with_reducible refine all_one ?_ | with_reducible refine all_cons ?_ ?_)
    all_goals first | exact (rfl : @Eq (List Value) _ _) | with_reducible exact le_goal (Nat.le_of_ble_eq_true rfl) | with_reducible exact fixd_goal rfl (Nat.le_of_ble_eq_true rfl) | (with_reducible refine hit_intro ?_ ?_ <;> (simp; done)) | exact (rfl : @Eq Value _ (Value.iface _ _)) | exact (rfl : @Eq Value _ (Value.agg _)) | (with_reducible refine veq_goal ?_; simp; done) | skip
  · simp [EventT.form, WayT.zero, Bool.and_assoc]
def K88 : Spec := Spec.add K54 88 (fam (fun (p : EventT) => [eventV p]) (fun v => eventD (v.getD 0 .nilFunc)) (fun (p : EventT) => True) (fun (p : EventT) => .bool p.form))
theorem K88_ok : SpecOK CT K88 := SpecOK.add K54_ok (fam_ok fun p hp => c88 p)
theorem ok127 : codeOk CT Try.f127 (Try.f127.body.get rfl) = true := by kernel_rfl
theorem c127 (k : Int) : Fz CT 127 [.int .i64 k] (.bool (decide (2 ≤ k) && decide (k ≤ 4))) := by
  refine Fz.of_sRun (K := K88) (K3 := Spec3.none) (O := []) (D := []) (k := 400) (H := []) CT_ok rfl K88_ok Spec3OK.none (c := Try.f127.body.get rfl) Try.func127 rfl (Nat.le_of_ble_eq_true rfl) (by decide) rfl ok127 rfl ?_ ?_
  · repeat' (first | with_reducible exact holds_none | with_reducible exact all_nil | with_reducible refine holds_some ?_ | with_reducible refine andP_intro ?_ ?_ | with_reducible refine condP_intro (fun h => ?_) (fun h => ?_) | with_reducible refine psP_intro ?_ | with_reducible refine all_append ?_ ?_ | with_reducible refine all_under (fun h => ?_) | with_reducible refine all_one ?_ | with_reducible refine all_cons ?_ ?_)
    all_goals first | exact (rfl : @Eq (List Value) _ _) | with_reducible exact le_goal (Nat.le_of_ble_eq_true rfl) | with_reducible exact fixd_goal rfl (Nat.le_of_ble_eq_true rfl) | (with_reducible refine hit_intro ?_ ?_ <;> (simp; done)) | exact (rfl : @Eq Value _ (Value.iface _ _)) | exact (rfl : @Eq Value _ (Value.agg _)) | (with_reducible refine veq_goal ?_; simp; done) | skip
  · simp
def K127 : Spec := Spec.add K88 127 (fam (fun (p : Int) => [.int .i64 p]) (fun v => intOf (v.getD 0 .nilFunc)) (fun (p : Int) => True) (fun (p : Int) => .bool (decide (2 ≤ p) && decide (p ≤ 4))))
theorem K127_ok : SpecOK CT K127 := SpecOK.add K88_ok (fam_ok fun p hp => c127 p)
theorem ok118 : codeOk CT Try.f118 (Try.f118.body.get rfl) = true := by kernel_rfl
theorem c118 (e : EventT) : Fz CT 118 [eventP e] (.bool e.form) := by
  refine Fz.of_sRun (K := K127) (K3 := Spec3.none) (O := []) (D := [(6, .int .i64 e.kind), (13, .int .i64 e.kind), (19, .int .i64 e.key), (26, .int .i64 e.kind), (33, .int .i64 e.kind), (40, .int .i64 e.kind), (47, .int .i64 e.who), (53, .bool e.on), (58, .int .i64 e.kind), (65, .int .i64 e.kind), (72, .int .i64 e.kind), (78, .int .i64 e.kind), (84, intsV .u8 e.data), (92, .int .i64 e.kind), (98, .int .i64 e.n), (106, .int .i64 e.kind), (112, wayV e.way)]) (k := 400) (H := []) CT_ok rfl K127_ok Spec3OK.none (c := Try.f118.body.get rfl) Try.func118 rfl (Nat.le_of_ble_eq_true rfl) (by decide) rfl ok118 rfl ?_ ?_
  · repeat' (first | with_reducible exact holds_none | with_reducible exact all_nil | with_reducible refine holds_some ?_ | with_reducible refine andP_intro ?_ ?_ | with_reducible refine condP_intro (fun h => ?_) (fun h => ?_) | with_reducible refine psP_intro ?_ | with_reducible refine all_append ?_ ?_ | with_reducible refine all_under (fun h => ?_) | with_reducible refine all_one ?_ | with_reducible refine all_cons ?_ ?_)
    all_goals first | exact (rfl : @Eq (List Value) _ _) | with_reducible exact le_goal (Nat.le_of_ble_eq_true rfl) | with_reducible exact fixd_goal rfl (Nat.le_of_ble_eq_true rfl) | (with_reducible refine hit_intro ?_ ?_ <;> (simp; done)) | exact (rfl : @Eq Value _ (Value.iface _ _)) | exact (rfl : @Eq Value _ (Value.agg _)) | (with_reducible refine veq_goal ?_; simp; done) | skip
  · simp [EventT.form, WayT.zero, Bool.and_assoc]
    rw [Bool.eq_iff_iff]
    simp only [Bool.and_eq_true, Bool.or_eq_true, Bool.not_eq_true', decide_eq_true_eq, beq_iff_eq, bne_iff_ne, ne_eq, bne_eq_false_iff_eq]
    cases e.on <;> grind
def K118 : Spec := Spec.add K127 118 (fam (fun (p : EventT) => [eventP p]) (fun v => eventD (v.getD 0 .nilFunc)) (fun (p : EventT) => True) (fun (p : EventT) => .bool p.form))
theorem K118_ok : SpecOK CT K118 := SpecOK.add K127_ok (fam_ok fun p hp => c118 p)
def EventT.fault (e : EventT) : Int := bif e.form then (bif decide (e.data.length ≤ 60) then 0 else 2) else 1
theorem ok87 : codeOk CT Try.f87 (Try.f87.body.get rfl) = true := by kernel_rfl
theorem c87 (e : EventT) : Fz CT 87 [eventP e] (.int .i64 e.fault) := by
  refine Fz.of_sRun (K := K118) (K3 := Spec3.none) (O := []) (D := [(4, .bool e.form), (9, intsV .u8 e.data)]) (k := 400) (H := []) CT_ok rfl K118_ok Spec3OK.none (c := Try.f87.body.get rfl) Try.func87 rfl (Nat.le_of_ble_eq_true rfl) (by decide) rfl ok87 rfl ?_ ?_
  · repeat' (first | with_reducible exact holds_none | with_reducible exact all_nil | with_reducible refine holds_some ?_ | with_reducible refine andP_intro ?_ ?_ | with_reducible refine condP_intro (fun h => ?_) (fun h => ?_) | with_reducible refine psP_intro ?_ | with_reducible refine all_append ?_ ?_ | with_reducible refine all_under (fun h => ?_) | with_reducible refine all_one ?_ | with_reducible refine all_cons ?_ ?_)
    all_goals first | exact (rfl : @Eq (List Value) _ _) | with_reducible exact le_goal (Nat.le_of_ble_eq_true rfl) | with_reducible exact fixd_goal rfl (Nat.le_of_ble_eq_true rfl) | (with_reducible refine hit_intro ?_ ?_ <;> (simp; done)) | exact (rfl : @Eq Value _ (Value.iface _ _)) | exact (rfl : @Eq Value _ (Value.agg _)) | (with_reducible refine veq_goal ?_; simp; done) | skip
  · simp [EventT.fault]
    grind
def K87 : Spec := Spec.add K118 87 (fam (fun (p : EventT) => [eventP p]) (fun v => eventD (v.getD 0 .nilFunc)) (fun (p : EventT) => True) (fun (p : EventT) => .int .i64 p.fault))
theorem K87_ok : SpecOK CT K87 := SpecOK.add K118_ok (fam_ok fun p hp => c87 p)
theorem ok35 : codeOk CT Try.f35 (Try.f35.body.get rfl) = true := by kernel_rfl
theorem c35 (e : EventT) : Fz CT 35 [eventV e] (.int .i64 e.fault) := by
  refine Fz.of_sRun (K := K87) (K3 := Spec3.none) (O := []) (D := [(3, .int .i64 e.fault)]) (k := 400) (H := []) CT_ok rfl K87_ok Spec3OK.none (c := Try.f35.body.get rfl) Try.func35 rfl (Nat.le_of_ble_eq_true rfl) (by decide) rfl ok35 rfl ?_ ?_
  · repeat' (first | with_reducible exact holds_none | with_reducible exact all_nil | with_reducible refine holds_some ?_ | with_reducible refine andP_intro ?_ ?_ | with_reducible refine condP_intro (fun h => ?_) (fun h => ?_) | with_reducible refine psP_intro ?_ | with_reducible refine all_append ?_ ?_ | with_reducible refine all_under (fun h => ?_) | with_reducible refine all_one ?_ | with_reducible refine all_cons ?_ ?_)
    all_goals first | exact (rfl : @Eq (List Value) _ _) | with_reducible exact le_goal (Nat.le_of_ble_eq_true rfl) | with_reducible exact fixd_goal rfl (Nat.le_of_ble_eq_true rfl) | (with_reducible refine hit_intro ?_ ?_ <;> (simp; done)) | exact (rfl : @Eq Value _ (Value.iface _ _)) | exact (rfl : @Eq Value _ (Value.agg _)) | (with_reducible refine veq_goal ?_; simp; done) | skip
  · rfl
def K35 : Spec := Spec.add K87 35 (fam (fun (p : EventT) => [eventV p]) (fun v => eventD (v.getD 0 .nilFunc)) (fun (p : EventT) => True) (fun (p : EventT) => .int .i64 p.fault))
theorem K35_ok : SpecOK CT K35 := SpecOK.add K87_ok (fam_ok fun p hp => c35 p)
theorem ok37 : codeOk CT Try.f37 (Try.f37.body.get rfl) = true := by kernel_rfl
theorem c37 (e : EventT) : Fz CT 37 [eventV e] (.int .i64 e.fault) := by
  refine Fz.of_sRun (K := K35) (K3 := Spec3.none) (O := []) (D := [(3, eventV e), (4, .bool e.form), (7, intsV .u8 e.data)]) (k := 400) (H := []) CT_ok rfl K35_ok Spec3OK.none (c := Try.f37.body.get rfl) Try.func37 rfl (Nat.le_of_ble_eq_true rfl) (by decide) rfl ok37 rfl ?_ ?_
  · repeat' (first | with_reducible exact holds_none | with_reducible exact all_nil | with_reducible refine holds_some ?_ | with_reducible refine andP_intro ?_ ?_ | with_reducible refine condP_intro (fun h => ?_) (fun h => ?_) | with_reducible refine psP_intro ?_ | with_reducible refine all_append ?_ ?_ | with_reducible refine all_under (fun h => ?_) | with_reducible refine all_one ?_ | with_reducible refine all_cons ?_ ?_)
    all_goals first | exact (rfl : @Eq (List Value) _ _) | with_reducible exact le_goal (Nat.le_of_ble_eq_true rfl) | with_reducible exact fixd_goal rfl (Nat.le_of_ble_eq_true rfl) | (with_reducible refine hit_intro ?_ ?_ <;> (simp; done)) | exact (rfl : @Eq Value _ (Value.iface _ _)) | exact (rfl : @Eq Value _ (Value.agg _)) | (with_reducible refine veq_goal ?_; simp; done) | skip
  · simp [EventT.fault, firstOf]
    grind
def K37 : Spec := Spec.add K35 37 (fam (fun (p : EventT) => [eventV p]) (fun v => eventD (v.getD 0 .nilFunc)) (fun (p : EventT) => True) (fun (p : EventT) => .int .i64 p.fault))
theorem K37_ok : SpecOK CT K37 := SpecOK.add K35_ok (fam_ok fun p hp => c37 p)

theorem ok28 : codeOk CT Try.f28 (Try.f28.body.get rfl) = true := by kernel_rfl
theorem c28 (w : WayT) : Fz CT 28 [wayV w] (wayV w) := by
  refine Fz.of_sRun (K := K37) (K3 := Spec3.none) (O := []) (D := [(5, .int .i64 w.f), (8, .int .i64 w.e), (11, .int .i64 w.k), (14, .int .i64 w.w), (17, .int .i64 w.n), (20, .int .i64 w.b), (23, .int .i64 w.x)]) (k := 400) (H := []) CT_ok rfl K37_ok Spec3OK.none (c := Try.f28.body.get rfl) Try.func28 rfl (Nat.le_of_ble_eq_true rfl) (by decide) rfl ok28 rfl ?_ ?_
  · repeat' (first | with_reducible exact holds_none | with_reducible exact all_nil | with_reducible refine holds_some ?_ | with_reducible refine andP_intro ?_ ?_ | with_reducible refine condP_intro (fun h => ?_) (fun h => ?_) | with_reducible refine psP_intro ?_ | with_reducible refine all_append ?_ ?_ | with_reducible refine all_under (fun h => ?_) | with_reducible refine all_one ?_ | with_reducible refine all_cons ?_ ?_)
    all_goals first | exact (rfl : @Eq (List Value) _ _) | with_reducible exact le_goal (Nat.le_of_ble_eq_true rfl) | with_reducible exact fixd_goal rfl (Nat.le_of_ble_eq_true rfl) | (with_reducible refine hit_intro ?_ ?_ <;> (simp; done)) | exact (rfl : @Eq Value _ (Value.iface _ _)) | exact (rfl : @Eq Value _ (Value.agg _)) | (with_reducible refine veq_goal ?_; simp; done) | skip
  · rfl
def K28 : Spec := Spec.add K37 28 (fam (fun (p : WayT) => [wayV p]) (fun v => wayD (v.getD 0 .nilFunc)) (fun (p : WayT) => True) (fun (p : WayT) => wayV p))
theorem K28_ok : SpecOK CT K28 := SpecOK.add K37_ok (fam_ok fun p hp => c28 p)
theorem ok89 : codeOk CT Try.f89 (Try.f89.body.get rfl) = true := by kernel_rfl
theorem c89 (a : WayT) (b : WayT) : Fz CT 89 [wayV a, wayV b] (.bool (a.f == b.f && a.e == b.e && a.k == b.k && a.w == b.w && a.n == b.n && a.b == b.b && a.x == b.x)) := by
  refine Fz.of_sRun (K := K28) (K3 := Spec3.none) (O := []) (D := []) (k := 400) (H := []) CT_ok rfl K28_ok Spec3OK.none (c := Try.f89.body.get rfl) Try.func89 rfl (Nat.le_of_ble_eq_true rfl) (by decide) rfl ok89 rfl ?_ ?_
  · repeat' (first | with_reducible exact holds_none | with_reducible exact all_nil | with_reducible refine holds_some ?_ | with_reducible refine andP_intro ?_ ?_ | with_reducible refine condP_intro (fun h => ?_) (fun h => ?_) | with_reducible refine psP_intro ?_ | with_reducible refine all_append ?_ ?_ | with_reducible refine all_under (fun h => ?_) | with_reducible refine all_one ?_ | with_reducible refine all_cons ?_ ?_)
    all_goals first | exact (rfl : @Eq (List Value) _ _) | with_reducible exact le_goal (Nat.le_of_ble_eq_true rfl) | with_reducible exact fixd_goal rfl (Nat.le_of_ble_eq_true rfl) | (with_reducible refine hit_intro ?_ ?_ <;> (simp; done)) | exact (rfl : @Eq Value _ (Value.iface _ _)) | exact (rfl : @Eq Value _ (Value.agg _)) | (with_reducible refine veq_goal ?_; simp; done) | skip
  · simp [bne]
    grind
def K89 : Spec := Spec.add K28 89 (fam (fun (p : WayT × WayT) => [wayV p.1, wayV p.2]) (fun v => (wayD (v.getD 0 .nilFunc), wayD (v.getD 1 .nilFunc))) (fun (p : WayT × WayT) => True) (fun (p : WayT × WayT) => .bool (p.1.f == p.2.f && p.1.e == p.2.e && p.1.k == p.2.k && p.1.w == p.2.w && p.1.n == p.2.n && p.1.b == p.2.b && p.1.x == p.2.x)))
theorem K89_ok : SpecOK CT K89 := SpecOK.add K28_ok (fam_ok fun p hp => c89 p.1 p.2)
theorem ok36 : codeOk CT Try.f36 (Try.f36.body.get rfl) = true := by kernel_rfl
theorem c36 (e : EventT) (hp : e.data.length ≤ 1048576) : Fz CT 36 [eventV e] (eventV e) := by
  refine Fz.of_sRun (K := K89) (K3 := Spec3.none) (O := []) (D := [(5, .int .i64 e.kind), (8, .int .i64 e.who), (11, .int .i64 e.key), (14, .bool e.on), (17, intsV .u8 e.data), (18, intsV .u8 e.data), (21, .int .i64 e.n), (24, wayV e.way), (25, wayV e.way)]) (k := 400) (H := []) CT_ok rfl K89_ok Spec3OK.none (c := Try.f36.body.get rfl) Try.func36 rfl (Nat.le_of_ble_eq_true rfl) (by decide) rfl ok36 rfl ?_ ?_
  · repeat' (first | with_reducible exact holds_none | with_reducible exact all_nil | with_reducible refine holds_some ?_ | with_reducible refine andP_intro ?_ ?_ | with_reducible refine condP_intro (fun h => ?_) (fun h => ?_) | with_reducible refine psP_intro ?_ | with_reducible refine all_append ?_ ?_ | with_reducible refine all_under (fun h => ?_) | with_reducible refine all_one ?_ | with_reducible refine all_cons ?_ ?_)
    all_goals first | exact (rfl : @Eq (List Value) _ _) | with_reducible exact le_goal (Nat.le_of_ble_eq_true rfl) | with_reducible exact fixd_goal rfl (Nat.le_of_ble_eq_true rfl) | (with_reducible refine hit_intro ?_ ?_ <;> (simp; done)) | exact (rfl : @Eq Value _ (Value.iface _ _)) | exact (rfl : @Eq Value _ (Value.agg _)) | (with_reducible refine veq_goal ?_; simp; done) | skip
    · exact hit_of e.data rfl (by simp) hp
  · rfl
def K36 : Spec := Spec.add K89 36 (fam (fun (p : EventT) => [eventV p]) (fun v => eventD (v.getD 0 .nilFunc)) (fun (p : EventT) => p.data.length ≤ 1048576) (fun (p : EventT) => eventV p))
theorem K36_ok : SpecOK CT K36 := SpecOK.add K89_ok (fam_ok fun p hp => c36 p hp)
theorem ok38 : codeOk CT Try.f38 (Try.f38.body.get rfl) = true := by kernel_rfl
theorem c38 (a : EventT) (b : EventT) (hp : a.data.length ≤ 1048576 ∧ b = a) : Fz CT 38 [eventV a, eventV b] (.bool true) := by
  obtain ⟨hd, rfl⟩ := hp
  refine Fz.of_sRun (K := K36) (K3 := Spec3.none) (O := []) (D := [(26, intsV .u8 b.data), (28, intsV .u8 b.data), (29, .bool true), (37, wayV b.way), (39, wayV b.way), (40, .bool true)]) (k := 400) (H := []) CT_ok rfl K36_ok Spec3OK.none (c := Try.f38.body.get rfl) Try.func38 rfl (Nat.le_of_ble_eq_true rfl) (by decide) rfl ok38 rfl ?_ ?_
  · repeat' (first | with_reducible exact holds_none | with_reducible exact all_nil | with_reducible refine holds_some ?_ | with_reducible refine andP_intro ?_ ?_ | with_reducible refine condP_intro (fun h => ?_) (fun h => ?_) | with_reducible refine psP_intro ?_ | with_reducible refine all_append ?_ ?_ | with_reducible refine all_under (fun h => ?_) | with_reducible refine all_one ?_ | with_reducible refine all_cons ?_ ?_)
    all_goals first | exact (rfl : @Eq (List Value) _ _) | with_reducible exact le_goal (Nat.le_of_ble_eq_true rfl) | with_reducible exact fixd_goal rfl (Nat.le_of_ble_eq_true rfl) | (with_reducible refine hit_intro ?_ ?_ <;> (simp; done)) | exact (rfl : @Eq Value _ (Value.iface _ _)) | exact (rfl : @Eq Value _ (Value.agg _)) | (with_reducible refine veq_goal ?_; simp; done) | skip
    · exact hit_of (b.data, b.data) rfl (by simp) ⟨hd, hd⟩
  · simp
def K38 : Spec := Spec.add K36 38 (fam (fun (p : EventT × EventT) => [eventV p.1, eventV p.2]) (fun v => (eventD (v.getD 0 .nilFunc), eventD (v.getD 1 .nilFunc))) (fun (p : EventT × EventT) => p.1.data.length ≤ 1048576 ∧ p.2 = p.1) (fun (p : EventT × EventT) => .bool true))
theorem K38_ok : SpecOK CT K38 := SpecOK.add K36_ok (fam_ok fun p hp => c38 p.1 p.2 hp)
theorem ok34 : codeOk CT Try.f34 (Try.f34.body.get rfl) = true := by kernel_rfl
theorem c34 (e : EventT) (left : Int) (hp : e.data.length ≤ maxLen ∧ 0 ≤ left ∧ left ≤ 1048576) : Fz CT 34 [eventV e, .int .i64 left] (.int .i64 (bif decide (left < e.data.length) then -1 else left - e.data.length)) := by
  refine Fz.of_sRun (K := K38) (K3 := Spec3.none) (O := []) (D := [(6, intsV .u8 e.data), (8, .int .i64 (bif decide (left < e.data.length) then -1 else left - e.data.length))]) (k := 400) (H := []) CT_ok rfl K38_ok Spec3OK.none (c := Try.f34.body.get rfl) Try.func34 rfl (Nat.le_of_ble_eq_true rfl) (by decide) rfl ok34 rfl ?_ ?_
  · repeat' (first | with_reducible exact holds_none | with_reducible exact all_nil | with_reducible refine holds_some ?_ | with_reducible refine andP_intro ?_ ?_ | with_reducible refine condP_intro (fun h => ?_) (fun h => ?_) | with_reducible refine psP_intro ?_ | with_reducible refine all_append ?_ ?_ | with_reducible refine all_under (fun h => ?_) | with_reducible refine all_one ?_ | with_reducible refine all_cons ?_ ?_)
    all_goals first | exact (rfl : @Eq (List Value) _ _) | with_reducible exact le_goal (Nat.le_of_ble_eq_true rfl) | with_reducible exact fixd_goal rfl (Nat.le_of_ble_eq_true rfl) | (with_reducible refine hit_intro ?_ ?_ <;> (simp; done)) | exact (rfl : @Eq Value _ (Value.iface _ _)) | exact (rfl : @Eq Value _ (Value.agg _)) | (with_reducible refine veq_goal ?_; simp; done) | skip
    · exact hit_of (e.data, left) rfl (by simp) hp
  · simp
    grind
def K34 : Spec := Spec.add K38 34 (fam (fun (p : EventT × Int) => [eventV p.1, .int .i64 p.2]) (fun v => (eventD (v.getD 0 .nilFunc), intOf (v.getD 1 .nilFunc))) (fun (p : EventT × Int) => p.1.data.length ≤ maxLen ∧ 0 ≤ p.2 ∧ p.2 ≤ 1048576) (fun (p : EventT × Int) => .int .i64 (bif decide (p.2 < p.1.data.length) then -1 else p.2 - p.1.data.length)))
theorem K34_ok : SpecOK CT K34 := SpecOK.add K38_ok (fam_ok fun p hp => c34 p.1 p.2 hp)

theorem ok7 : codeOk CT Try.f7 (Try.f7.body.get rfl) = true := by kernel_rfl
theorem law7 (e : EventT) (he : e.data.length ≤ maxLen) : Fz CT 7 [eventV e] (.bool true) := by
  cases hs : decide ((bif decide ((1048576 : Int) < e.data.length) then -1 else 1048576 - (e.data.length : Int)) < 0) with
  | true =>
    refine Fz.of_sRun (K := K34) (K3 := Spec3.none) (O := []) (D := [(7, eventV e), (9, .int .i64 (bif decide ((1048576 : Int) < e.data.length) then -1 else 1048576 - (e.data.length : Int))), (12, eventV e), (13, eventV e), (14, .int .i64 e.fault), (15, eventV e), (16, eventV e), (17, eventV e), (18, .int .i64 e.fault), (22, eventV e), (23, eventV e), (24, eventV e), (25, .bool true)]) (k := 400) (H := []) CT_ok rfl K34_ok Spec3OK.none (c := Try.f7.body.get rfl) Try.func7 rfl (Nat.le_of_ble_eq_true rfl) (by decide) rfl ok7 rfl ?_ ?_
    · repeat' (first | refine condP_tt hs ?_ | with_reducible exact holds_none | with_reducible exact all_nil | with_reducible refine holds_some ?_ | with_reducible refine andP_intro ?_ ?_ | with_reducible refine condP_intro (fun h => ?_) (fun h => ?_) | with_reducible refine psP_intro ?_ | with_reducible refine all_append ?_ ?_ | with_reducible refine all_under (fun h => ?_) | with_reducible refine all_one ?_ | with_reducible refine all_cons ?_ ?_)
      all_goals first | exact (rfl : @Eq (List Value) _ _) | with_reducible exact le_goal (Nat.le_of_ble_eq_true rfl) | with_reducible exact fixd_goal rfl (Nat.le_of_ble_eq_true rfl) | (with_reducible refine hit_intro ?_ ?_ <;> (simp; done)) | exact (rfl : @Eq Value _ (Value.iface _ _)) | exact (rfl : @Eq Value _ (Value.agg _)) | (with_reducible refine veq_goal ?_; simp; done) | skip
      exact hit_of (e, 1048576) rfl (by simp) ⟨he, by simp, by simp⟩
    · exact vbool_tt hs rfl
  | false =>
    have hsm : e.data.length ≤ 1048576 := by
      cases h : decide ((1048576 : Int) < e.data.length) with
      | true => rw [h] at hs; simp at hs
      | false => simp at h; omega
    refine Fz.of_sRun (K := K34) (K3 := Spec3.none) (O := []) (D := [(7, eventV e), (9, .int .i64 (bif decide ((1048576 : Int) < e.data.length) then -1 else 1048576 - (e.data.length : Int))), (12, eventV e), (13, eventV e), (14, .int .i64 e.fault), (15, eventV e), (16, eventV e), (17, eventV e), (18, .int .i64 e.fault), (22, eventV e), (23, eventV e), (24, eventV e), (25, .bool true)]) (k := 400) (H := []) CT_ok rfl K34_ok Spec3OK.none (c := Try.f7.body.get rfl) Try.func7 rfl (Nat.le_of_ble_eq_true rfl) (by decide) rfl ok7 rfl ?_ ?_
    · repeat' (first | refine condP_ff hs ?_ | with_reducible exact holds_none | with_reducible exact all_nil | with_reducible refine holds_some ?_ | with_reducible refine andP_intro ?_ ?_ | with_reducible refine condP_intro (fun h => ?_) (fun h => ?_) | with_reducible refine psP_intro ?_ | with_reducible refine all_append ?_ ?_ | with_reducible refine all_under (fun h => ?_) | with_reducible refine all_one ?_ | with_reducible refine all_cons ?_ ?_)
      all_goals first | exact (rfl : @Eq (List Value) _ _) | with_reducible exact le_goal (Nat.le_of_ble_eq_true rfl) | with_reducible exact fixd_goal rfl (Nat.le_of_ble_eq_true rfl) | (with_reducible refine hit_intro ?_ ?_ <;> (simp; done)) | exact (rfl : @Eq Value _ (Value.iface _ _)) | exact (rfl : @Eq Value _ (Value.agg _)) | (with_reducible refine veq_goal ?_; simp; done) | skip
      all_goals first | exact hit_of (e, 1048576) rfl (by simp) ⟨he, by simp, by simp⟩ | exact hit_of e rfl (by simp) hsm | exact hit_of (e, e) rfl (by simp) ⟨hsm, rfl⟩ | simp
    · refine vbool_ff hs ?_
      simp
theorem typed_way {cs : List Value} (h : Typed CT 41 cs) : ∃ w : WayT, cs = [.int .i64 w.f, .int .i64 w.e, .int .i64 w.k, .int .i64 w.w, .int .i64 w.n, .int .i64 w.b, .int .i64 w.x] := by
  obtain ⟨h1, h2⟩ := typed_struct h rfl
  match cs, h1, h2 with
  | [a, b, c, d, e, f, g], _, h2 =>
    obtain ⟨a, rfl, _⟩ := typed_int (h2 (0, 2) (by simp)) rfl
    obtain ⟨b, rfl, _⟩ := typed_int (h2 (1, 2) (by simp)) rfl
    obtain ⟨c, rfl, _⟩ := typed_int (h2 (2, 2) (by simp)) rfl
    obtain ⟨d, rfl, _⟩ := typed_int (h2 (3, 2) (by simp)) rfl
    obtain ⟨e, rfl, _⟩ := typed_int (h2 (4, 2) (by simp)) rfl
    obtain ⟨f, rfl, _⟩ := typed_int (h2 (5, 2) (by simp)) rfl
    obtain ⟨g, rfl, _⟩ := typed_int (h2 (6, 2) (by simp)) rfl
    exact ⟨⟨a, b, c, d, e, f, g⟩, rfl⟩
theorem typed_event {a : Value} (h : TypedV CT 52 a) : ∃ e, a = eventV e ∧ e.data.length ≤ maxLen := by
  obtain ⟨cs, rfl, h⟩ : ∃ cs : Array Value, a = .agg cs ∧ Typed CT 52 cs.toList := h
  obtain ⟨h1, h2⟩ := typed_struct h rfl
  obtain ⟨cs⟩ := cs
  match cs, h1, h2 with
  | [a, b, c, d, e, f, g1, g2, g3, g4, g5, g6, g7], _, h2 =>
    obtain ⟨a, rfl, _⟩ := typed_int (h2 (0, 2) (by simp)) rfl
    obtain ⟨b, rfl, _⟩ := typed_int (h2 (1, 2) (by simp)) rfl
    obtain ⟨c, rfl, _⟩ := typed_int (h2 (2, 2) (by simp)) rfl
    obtain ⟨d, rfl⟩ := typed_bool (h2 (3, 4) (by simp)) rfl
    obtain ⟨e, rfl, e1, _⟩ := typed_ints (h2 (4, 22) (by simp)) rfl rfl rfl
    obtain ⟨f, rfl, _⟩ := typed_int (h2 (5, 2) (by simp)) rfl
    obtain ⟨w, hw⟩ := typed_way (h2 (6, 41) (by simp))
    have hw : [g1, g2, g3, g4, g5, g6, g7] = _ := hw
    simp only [List.cons.injEq, and_true] at hw
    obtain ⟨rfl, rfl, rfl, rfl, rfl, rfl, rfl⟩ := hw
    exact ⟨⟨a, b, c, d, e, f, w⟩, rfl, e1⟩
theorem all_FnExactEventFault : ∀ xs, TypedAll CT [52] xs → Fz CT 7 xs (.bool true)
  | [a], h => by
    obtain ⟨e, rfl, he⟩ := typed_event h.1
    exact law7 e he
  | [], h => h.elim
  | _ :: _ :: _, h => h.2.elim
end Go.Ab
