/- Contracts of the small functions: in, unless, first, sizes of lines. -/
import Derived.Test.YtkoahogalplhhaaCf1
import Derived.Test.YtkoahogalplhhaaAbD
namespace Go.Ab
open Go.Proofs
set_option maxRecDepth 100000
set_option linter.unusedVariables false
set_option linter.unusedSimpArgs false

theorem ok82 : codeOk CT Try.f82 (Try.f82.body.get rfl) = true := by kernel_rfl
theorem c82 (x : Int) (a : Int) (b : Int) : Fz CT 82 [.int .i64 x, .int .i64 a, .int .i64 b] (.bool (decide (a ≤ x) && decide (x ≤ b))) := by
  refine Fz.of_sRun (K := Spec.none) (K3 := Spec3.none) (O := []) (D := []) (k := 400) (H := []) CT_ok rfl SpecOK.none Spec3OK.none (c := Try.f82.body.get rfl) Try.func82 rfl (Nat.le_of_ble_eq_true rfl) (by decide) rfl ok82 rfl ?_ ?_
  · trivial
  · cases decide (a ≤ x) <;> rfl
def K82 : Spec := Spec.add Spec.none 82 (fam (fun (p : Int × Int × Int) => [.int .i64 p.1, .int .i64 p.2.1, .int .i64 p.2.2]) (fun v => (intOf (v.getD 0 .nilFunc), intOf (v.getD 1 .nilFunc), intOf (v.getD 2 .nilFunc))) (fun (p : Int × Int × Int) => True) (fun (p : Int × Int × Int) => .bool (decide (p.2.1 ≤ p.1) && decide (p.1 ≤ p.2.2))))
theorem K82_ok : SpecOK CT K82 := SpecOK.add SpecOK.none (fam_ok fun p hp => c82 p.1 p.2.1 p.2.2)

theorem ok115 : codeOk CT Try.f115 (Try.f115.body.get rfl) = true := by kernel_rfl
theorem c115 (x : Int) (a : Int) (b : Int) : Fz CT 115 [.int .i64 x, .int .i64 a, .int .i64 b] (.bool (decide (a ≤ x) && decide (x ≤ b))) := by
  refine Fz.of_sRun (K := K82) (K3 := Spec3.none) (O := []) (D := []) (k := 400) (H := []) CT_ok rfl K82_ok Spec3OK.none (c := Try.f115.body.get rfl) Try.func115 rfl (Nat.le_of_ble_eq_true rfl) (by decide) rfl ok115 rfl ?_ ?_
  · trivial
  · show Value.bool (bif decide (x ≥ a) then decide (x ≤ b) else false) = _
    cases decide (a ≤ x) <;> rfl
def K115 : Spec := Spec.add K82 115 (fam (fun (p : Int × Int × Int) => [.int .i64 p.1, .int .i64 p.2.1, .int .i64 p.2.2]) (fun v => (intOf (v.getD 0 .nilFunc), intOf (v.getD 1 .nilFunc), intOf (v.getD 2 .nilFunc))) (fun (p : Int × Int × Int) => True) (fun (p : Int × Int × Int) => .bool (decide (p.2.1 ≤ p.1) && decide (p.1 ≤ p.2.2))))
theorem K115_ok : SpecOK CT K115 := SpecOK.add K82_ok (fam_ok fun p hp => c115 p.1 p.2.1 p.2.2)

theorem ok80 : codeOk CT Try.f80 (Try.f80.body.get rfl) = true := by kernel_rfl
theorem c80 (t : Bool) (a : Int) : Fz CT 80 [.bool t, .int .i64 a] (.int .i64 (bif t then 0 else a)) := by
  refine Fz.of_sRun (K := K115) (K3 := Spec3.none) (O := []) (D := []) (k := 400) (H := []) CT_ok rfl K115_ok Spec3OK.none (c := Try.f80.body.get rfl) Try.func80 rfl (Nat.le_of_ble_eq_true rfl) (by decide) rfl ok80 rfl ?_ ?_
  · trivial
  · rfl
def K80 : Spec := Spec.add K115 80 (fam (fun (p : Bool × Int) => [.bool p.1, .int .i64 p.2]) (fun v => (boolOf (v.getD 0 .nilFunc), intOf (v.getD 1 .nilFunc))) (fun (p : Bool × Int) => True) (fun (p : Bool × Int) => .int .i64 (bif p.1 then 0 else p.2)))
theorem K80_ok : SpecOK CT K80 := SpecOK.add K115_ok (fam_ok fun p hp => c80 p.1 p.2)

theorem ok18 : codeOk CT Try.f18 (Try.f18.body.get rfl) = true := by kernel_rfl
def resV (c v : Int) : Value := .agg #[.int .i64 c, .int .i64 v]
theorem c18' (a b c d : Int) : Fz CT 18 [resV a b, resV c d] (.bool (a == c && b == d)) := by
  refine Fz.of_sRun (K := K80) (K3 := Spec3.none) (O := []) (D := []) (k := 400) (H := []) CT_ok rfl K80_ok Spec3OK.none (c := Try.f18.body.get rfl) Try.func18 rfl (Nat.le_of_ble_eq_true rfl) (by decide) rfl ok18 rfl ?_ ?_
  · repeat' (first | with_reducible exact holds_none | with_reducible exact all_nil | with_reducible refine holds_some ?_ | with_reducible refine andP_intro ?_ ?_ | with_reducible refine condP_intro (fun h => ?_) (fun h => ?_) | with_reducible refine psP_intro ?_ | with_reducible refine all_append ?_ ?_ | with_reducible refine all_under (fun h => ?_) | with_reducible refine all_one ?_ | with_reducible refine all_cons ?_ ?_)
    all_goals first | exact (rfl : @Eq (List Value) _ _) | with_reducible exact le_goal (Nat.le_of_ble_eq_true rfl) | with_reducible exact fixd_goal rfl (Nat.le_of_ble_eq_true rfl) | (with_reducible refine hit_intro ?_ ?_ <;> (simp; done)) | exact (rfl : @Eq Value _ (Value.iface _ _)) | exact (rfl : @Eq Value _ (Value.agg _)) | (with_reducible refine veq_goal ?_; simp; done) | skip
  · show Value.bool (bif a != c then false else bif b != d then false else true) = _
    cases h : (a == c) <;> cases h' : (b == d) <;> simp [bne, h, h']

/-- The first that is not 0. -/
def firstOf : List Int → Int
  | [] => 0
  | x :: xs => bif x != 0 then x else firstOf xs
theorem ok79 : codeOk CT Try.f79 (Try.f79.body.get rfl) = true := by kernel_rfl
theorem l79 (a : List Int) (hl : a.length ≤ 1000) : ∀ (n i : Nat), i + n = a.length → RunF CT Try.f79 (atLoop Try.f79 0) [(5, intsV .i64 a), (6, .int .i64 a.length), (7, .int .i64 i)] [] (.int .i64 (firstOf (a.drop i))) := by
  intro n
  induction n with
  | zero =>
    intro i hi
    have hb := idx_ge (i := i) (n := a.length) (by omega)
    refine RunF.of_sRun (K := K80) (K3 := Spec3.none) (O := []) (D := []) (H := [.int .i64 0]) CT_ok rfl K80_ok Spec3OK.none (c := Try.f79.body.get rfl) rfl ok79 400 rfl ?_ ?_
    · repeat' (first | refine condP_ff hb ?_ | with_reducible exact holds_none | with_reducible exact all_nil | with_reducible refine holds_some ?_ | with_reducible refine andP_intro ?_ ?_ | with_reducible refine condP_intro (fun h => ?_) (fun h => ?_) | with_reducible refine psP_intro ?_ | with_reducible refine all_append ?_ ?_ | with_reducible refine all_under (fun h => ?_) | with_reducible refine all_one ?_ | with_reducible refine all_cons ?_ ?_)
      all_goals first | exact (rfl : @Eq (List Value) _ _) | with_reducible exact le_goal (Nat.le_of_ble_eq_true rfl) | with_reducible exact fixd_goal rfl (Nat.le_of_ble_eq_true rfl) | (with_reducible refine hit_intro ?_ ?_ <;> (simp; done)) | exact (rfl : @Eq Value _ (Value.iface _ _)) | exact (rfl : @Eq Value _ (Value.agg _)) | (with_reducible refine veq_goal ?_; simp; done) | skip
    · rw [show a.drop i = [] from List.drop_eq_nil_of_le (by omega)]
      exact vint_ff hb rfl
  | succ n ih =>
    intro i hi
    have hlt : i < a.length := by omega
    have hb := idx_lt hlt
    refine RunF.of_sRun (K := K80) (K3 := Spec3.none) (O := []) (D := []) (H := [.int .i64 (firstOf (a.drop (i + 1)))]) CT_ok rfl K80_ok Spec3OK.none (c := Try.f79.body.get rfl) rfl ok79 400 rfl ?_ ?_
    · repeat' (first | refine condP_tt hb ?_ | with_reducible exact holds_none | with_reducible exact all_nil | with_reducible refine holds_some ?_ | with_reducible refine andP_intro ?_ ?_ | with_reducible refine condP_intro (fun h => ?_) (fun h => ?_) | with_reducible refine psP_intro ?_ | with_reducible refine all_append ?_ ?_ | with_reducible refine all_under (fun h => ?_) | with_reducible refine all_one ?_ | with_reducible refine all_cons ?_ ?_)
      all_goals first | exact (rfl : @Eq (List Value) _ _) | with_reducible exact le_goal (Nat.le_of_ble_eq_true rfl) | with_reducible exact fixd_goal rfl (Nat.le_of_ble_eq_true rfl) | (with_reducible refine hit_intro ?_ ?_ <;> (simp; done)) | exact (rfl : @Eq Value _ (Value.iface _ _)) | exact (rfl : @Eq Value _ (Value.agg _)) | (with_reducible refine veq_goal ?_; simp; done) | skip
      · exact in_range hlt
      · exact load_ints (by decide) (by simpa using hlt)
      · exact RunF.norm0 rfl (simT_cons rfl rfl rfl (simT_cons rfl rfl rfl (simT_cons rfl rfl (by rw [wrap_succ (by omega)]) simT_nil))) (ih (i + 1) (by omega))
    · rw [List.drop_eq_getElem_cons hlt, loaded (by decide), hb]
      simp [firstOf, hlt]
theorem c79 (a : List Int) (hp : a.length ≤ 1000) : Fz CT 79 [intsV .i64 a] (.int .i64 (firstOf a)) := by
  refine Fz.of_sRun (K := K80) (K3 := Spec3.none) (O := []) (D := []) (k := 400) (H := [.int .i64 (firstOf a)]) CT_ok rfl K80_ok Spec3OK.none (c := Try.f79.body.get rfl) Try.func79 rfl (Nat.le_of_ble_eq_true rfl) (by decide) rfl ok79 rfl ?_ ?_
  · repeat' (first | with_reducible exact holds_none | with_reducible exact all_nil | with_reducible refine holds_some ?_ | with_reducible refine andP_intro ?_ ?_ | with_reducible refine condP_intro (fun h => ?_) (fun h => ?_) | with_reducible refine psP_intro ?_ | with_reducible refine all_append ?_ ?_ | with_reducible refine all_under (fun h => ?_) | with_reducible refine all_one ?_ | with_reducible refine all_cons ?_ ?_)
    all_goals first | exact (rfl : @Eq (List Value) _ _) | with_reducible exact le_goal (Nat.le_of_ble_eq_true rfl) | with_reducible exact fixd_goal rfl (Nat.le_of_ble_eq_true rfl) | (with_reducible refine hit_intro ?_ ?_ <;> (simp; done)) | exact (rfl : @Eq Value _ (Value.iface _ _)) | exact (rfl : @Eq Value _ (Value.agg _)) | (with_reducible refine veq_goal ?_; simp; done) | skip
    exact RunF.norm0 rfl (simT_cons rfl rfl rfl (simT_cons rfl rfl rfl (simT_cons rfl rfl rfl simT_nil))) (l79 a hp a.length 0 (by omega))
  · rfl
def K79 : Spec := Spec.add K80 79 (fam (fun (p : (List Int)) => [intsV .i64 p]) (fun v => intsD (v.getD 0 .nilFunc)) (fun (p : (List Int)) => p.length ≤ 1000) (fun (p : (List Int)) => .int .i64 (firstOf p)))
theorem K79_ok : SpecOK CT K79 := SpecOK.add K80_ok (fam_ok fun p hp => c79 p hp)
end Go.Ab
