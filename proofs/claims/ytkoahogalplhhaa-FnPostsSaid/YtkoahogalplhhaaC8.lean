/- Contracts of ways: has, faults; posts. -/
import Derived.Test.YtkoahogalplhhaaC7
namespace Go.Ab
open Go.Proofs
set_option maxRecDepth 100000
set_option linter.unusedVariables false
set_option linter.unusedSimpArgs false
structure WayT where
  f : Int
  e : Int
  k : Int
  w : Int
  n : Int
  b : Int
  x : Int
abbrev wayV (w : WayT) : Value := .agg #[.int .i64 w.f, .int .i64 w.e, .int .i64 w.k, .int .i64 w.w, .int .i64 w.n, .int .i64 w.b, .int .i64 w.x]
abbrev wayP (w : WayT) : Value := roP [.int .i64 w.f, .int .i64 w.e, .int .i64 w.k, .int .i64 w.w, .int .i64 w.n, .int .i64 w.b, .int .i64 w.x]
def wayD (v : Value) : WayT := ⟨intOf (cellV v 0), intOf (cellV v 1), intOf (cellV v 2), intOf (cellV v 3), intOf (cellV v 4), intOf (cellV v 5), intOf (cellV v 6)⟩
@[simp] theorem wayD_agg (a b c d e f g : Value) : wayD (.agg #[a, b, c, d, e, f, g]) = ⟨intOf a, intOf b, intOf c, intOf d, intOf e, intOf f, intOf g⟩ := rfl
@[simp] theorem wayD_tuple (n : Nat) (a b c d e f g : Value) : wayD (.iface n (.tuple #[a, b, c, d, e, f, g])) = ⟨intOf a, intOf b, intOf c, intOf d, intOf e, intOf f, intOf g⟩ := rfl
@[simp] theorem way_eta (w : WayT) : (⟨w.f, w.e, w.k, w.w, w.n, w.b, w.x⟩ : WayT) = w := rfl
def WayT.list (w : WayT) : List Int := [w.f, w.e, w.k, w.w, w.n, w.b, w.x]
/-- Bits of whole numbers. -/
def andI (a b : Int) : Int := IntKind.i64.wrap (BitVec.ofInt IntKind.i64.bits a &&& BitVec.ofInt IntKind.i64.bits b).toNat

theorem ok85 : codeOk CT Try.f85 (Try.f85.body.get rfl) = true := by kernel_rfl
theorem c85 (w : WayT) (fl : Int) : Fz CT 85 [wayV w, .int .i64 fl] (.bool (andI w.f fl == fl)) := by
  refine Fz.of_sRun (K := K21) (K3 := Spec3.none) (O := []) (D := [(6, .int .i64 w.f)]) (k := 400) (H := []) CT_ok rfl K21_ok Spec3OK.none (c := Try.f85.body.get rfl) Try.func85 rfl (Nat.le_of_ble_eq_true rfl) (by decide) rfl ok85 rfl ?_ ?_
  · repeat' (first | with_reducible exact holds_none | with_reducible exact all_nil | with_reducible refine holds_some ?_ | with_reducible refine andP_intro ?_ ?_ | with_reducible refine condP_intro (fun h => ?_) (fun h => ?_) | with_reducible refine psP_intro ?_ | with_reducible refine all_append ?_ ?_ | with_reducible refine all_under (fun h => ?_) | with_reducible refine all_one ?_ | with_reducible refine all_cons ?_ ?_)
    all_goals first | exact (rfl : @Eq (List Value) _ _) | with_reducible exact le_goal (Nat.le_of_ble_eq_true rfl) | with_reducible exact fixd_goal rfl (Nat.le_of_ble_eq_true rfl) | (with_reducible refine hit_intro ?_ ?_ <;> (simp; done)) | exact (rfl : @Eq Value _ (Value.iface _ _)) | exact (rfl : @Eq Value _ (Value.agg _)) | (with_reducible refine veq_goal ?_; simp; done) | skip
  · rfl
def K85 : Spec := Spec.add K21 85 (fam (fun (p : WayT × Int) => [wayV p.1, .int .i64 p.2]) (fun v => (wayD (v.getD 0 .nilFunc), intOf (v.getD 1 .nilFunc))) (fun (p : WayT × Int) => True) (fun (p : WayT × Int) => .bool (andI p.1.f p.2 == p.2)))
theorem K85_ok : SpecOK CT K85 := SpecOK.add K21_ok (fam_ok fun p hp => c85 p.1 p.2)
theorem ok117 : codeOk CT Try.f117 (Try.f117.body.get rfl) = true := by kernel_rfl
theorem c117 (w : WayT) (fl : Int) : Fz CT 117 [wayP w, .int .i64 fl] (.bool (andI w.f fl != 0)) := by
  refine Fz.of_sRun (K := K85) (K3 := Spec3.none) (O := []) (D := [(8, .int .i64 w.f)]) (k := 400) (H := []) CT_ok rfl K85_ok Spec3OK.none (c := Try.f117.body.get rfl) Try.func117 rfl (Nat.le_of_ble_eq_true rfl) (by decide) rfl ok117 rfl ?_ ?_
  · repeat' (first | with_reducible exact holds_none | with_reducible exact all_nil | with_reducible refine holds_some ?_ | with_reducible refine andP_intro ?_ ?_ | with_reducible refine condP_intro (fun h => ?_) (fun h => ?_) | with_reducible refine psP_intro ?_ | with_reducible refine all_append ?_ ?_ | with_reducible refine all_under (fun h => ?_) | with_reducible refine all_one ?_ | with_reducible refine all_cons ?_ ?_)
    all_goals first | exact (rfl : @Eq (List Value) _ _) | with_reducible exact le_goal (Nat.le_of_ble_eq_true rfl) | with_reducible exact fixd_goal rfl (Nat.le_of_ble_eq_true rfl) | (with_reducible refine hit_intro ?_ ?_ <;> (simp; done)) | exact (rfl : @Eq Value _ (Value.iface _ _)) | exact (rfl : @Eq Value _ (Value.agg _)) | (with_reducible refine veq_goal ?_; simp; done) | skip
  · rfl
def K117 : Spec := Spec.add K85 117 (fam (fun (p : WayT × Int) => [wayP p.1, .int .i64 p.2]) (fun v => (wayD (v.getD 0 .nilFunc), intOf (v.getD 1 .nilFunc))) (fun (p : WayT × Int) => True) (fun (p : WayT × Int) => .bool (andI p.1.f p.2 != 0)))
theorem K117_ok : SpecOK CT K117 := SpecOK.add K85_ok (fam_ok fun p hp => c117 p.1 p.2)
theorem ok84 : codeOk CT Try.f84 (Try.f84.body.get rfl) = true := by kernel_rfl
theorem c84 (w : WayT) : Fz CT 84 [wayP w] (.bool (andI w.f 128 != 0 && andI w.f 256 != 0)) := by
  refine Fz.of_sRun (K := K117) (K3 := Spec3.none) (O := []) (D := [(4, .bool (andI w.f 128 != 0)), (7, .bool (andI w.f 256 != 0))]) (k := 400) (H := []) CT_ok rfl K117_ok Spec3OK.none (c := Try.f84.body.get rfl) Try.func84 rfl (Nat.le_of_ble_eq_true rfl) (by decide) rfl ok84 rfl ?_ ?_
  · repeat' (first | with_reducible exact holds_none | with_reducible exact all_nil | with_reducible refine holds_some ?_ | with_reducible refine andP_intro ?_ ?_ | with_reducible refine condP_intro (fun h => ?_) (fun h => ?_) | with_reducible refine psP_intro ?_ | with_reducible refine all_append ?_ ?_ | with_reducible refine all_under (fun h => ?_) | with_reducible refine all_one ?_ | with_reducible refine all_cons ?_ ?_)
    all_goals first | exact (rfl : @Eq (List Value) _ _) | with_reducible exact le_goal (Nat.le_of_ble_eq_true rfl) | with_reducible exact fixd_goal rfl (Nat.le_of_ble_eq_true rfl) | (with_reducible refine hit_intro ?_ ?_ <;> (simp; done)) | exact (rfl : @Eq Value _ (Value.iface _ _)) | exact (rfl : @Eq Value _ (Value.agg _)) | (with_reducible refine veq_goal ?_; simp; done) | skip
  · cases (andI w.f 128 != 0) <;> rfl
def K84 : Spec := Spec.add K117 84 (fam (fun (p : WayT) => [wayP p]) (fun v => wayD (v.getD 0 .nilFunc)) (fun (p : WayT) => True) (fun (p : WayT) => .bool (andI p.f 128 != 0 && andI p.f 256 != 0)))
theorem K84_ok : SpecOK CT K84 := SpecOK.add K117_ok (fam_ok fun p hp => c84 p)
theorem ok103 : codeOk CT Try.f103 (Try.f103.body.get rfl) = true := by kernel_rfl
theorem c103 (w : WayT) : Fz CT 103 [wayV w] (intsV .i64 w.list) := by
  refine Fz.of_sRun (K := K84) (K3 := Spec3.none) (O := []) (D := [(4, .int .i64 w.f), (6, .int .i64 w.e), (8, .int .i64 w.k), (10, .int .i64 w.w), (12, .int .i64 w.n), (14, .int .i64 w.b), (16, .int .i64 w.x)]) (k := 400) (H := []) CT_ok rfl K84_ok Spec3OK.none (c := Try.f103.body.get rfl) Try.func103 rfl (Nat.le_of_ble_eq_true rfl) (by decide) rfl ok103 rfl ?_ ?_
  · repeat' (first | with_reducible exact holds_none | with_reducible exact all_nil | with_reducible refine holds_some ?_ | with_reducible refine andP_intro ?_ ?_ | with_reducible refine condP_intro (fun h => ?_) (fun h => ?_) | with_reducible refine psP_intro ?_ | with_reducible refine all_append ?_ ?_ | with_reducible refine all_under (fun h => ?_) | with_reducible refine all_one ?_ | with_reducible refine all_cons ?_ ?_)
    all_goals first | exact (rfl : @Eq (List Value) _ _) | with_reducible exact le_goal (Nat.le_of_ble_eq_true rfl) | with_reducible exact fixd_goal rfl (Nat.le_of_ble_eq_true rfl) | (with_reducible refine hit_intro ?_ ?_ <;> (simp; done)) | exact (rfl : @Eq Value _ (Value.iface _ _)) | exact (rfl : @Eq Value _ (Value.agg _)) | (with_reducible refine veq_goal ?_; simp; done) | skip
  · rfl
def K103 : Spec := Spec.add K84 103 (fam (fun (p : WayT) => [wayV p]) (fun v => wayD (v.getD 0 .nilFunc)) (fun (p : WayT) => True) (fun (p : WayT) => intsV .i64 p.list))
theorem K103_ok : SpecOK CT K103 := SpecOK.add K84_ok (fam_ok fun p hp => c103 p)
theorem ok126 : codeOk CT Try.f126 (Try.f126.body.get rfl) = true := by kernel_rfl
theorem c126 (w : WayT) : Fz CT 126 [wayP w] (intsV .i64 w.list) := by
  refine Fz.of_sRun (K := K103) (K3 := Spec3.none) (O := []) (D := [(6, .int .i64 w.f), (10, .int .i64 w.e), (14, .int .i64 w.k), (18, .int .i64 w.w), (22, .int .i64 w.n), (26, .int .i64 w.b), (30, .int .i64 w.x)]) (k := 400) (H := []) CT_ok rfl K103_ok Spec3OK.none (c := Try.f126.body.get rfl) Try.func126 rfl (Nat.le_of_ble_eq_true rfl) (by decide) rfl ok126 rfl ?_ ?_
  · repeat' (first | with_reducible exact holds_none | with_reducible exact all_nil | with_reducible refine holds_some ?_ | with_reducible refine andP_intro ?_ ?_ | with_reducible refine condP_intro (fun h => ?_) (fun h => ?_) | with_reducible refine psP_intro ?_ | with_reducible refine all_append ?_ ?_ | with_reducible refine all_under (fun h => ?_) | with_reducible refine all_one ?_ | with_reducible refine all_cons ?_ ?_)
    all_goals first | exact (rfl : @Eq (List Value) _ _) | with_reducible exact le_goal (Nat.le_of_ble_eq_true rfl) | with_reducible exact fixd_goal rfl (Nat.le_of_ble_eq_true rfl) | (with_reducible refine hit_intro ?_ ?_ <;> (simp; done)) | exact (rfl : @Eq Value _ (Value.iface _ _)) | exact (rfl : @Eq Value _ (Value.agg _)) | (with_reducible refine veq_goal ?_; simp; done) | skip
  · rfl
def K126 : Spec := Spec.add K103 126 (fam (fun (p : WayT) => [wayP p]) (fun v => wayD (v.getD 0 .nilFunc)) (fun (p : WayT) => True) (fun (p : WayT) => intsV .i64 p.list))
theorem K126_ok : SpecOK CT K126 := SpecOK.add K103_ok (fam_ok fun p hp => c126 p)
/-- The fault of a list of numbers from a place on. -/
def faultL : Nat → List Int → Int
  | _, [] => 0
  | i, x :: xs => bif decide (0 ≤ x) && decide (x ≤ bif i == 0 then 511 else 255) then faultL (i + 1) xs else 3
def WayT.fault (w : WayT) : Int := faultL 0 w.list

theorem ok116 : codeOk CT Try.f116 (Try.f116.body.get rfl) = true := by kernel_rfl
theorem l116 (a : List Int) (hl : a.length ≤ 1000) : ∀ (n i : Nat), i + n = a.length → RunF CT Try.f116 (atLoop Try.f116 0) [(3, intsV .i64 a), (4, .int .i64 i)] [] (.int .i64 (faultL i (a.drop i))) := by
  intro n
  induction n with
  | zero =>
    intro i hi
    have hb := idx_ge (i := i) (n := a.length) (by omega)
    refine RunF.of_sRun (K := K126) (K3 := Spec3.none) (O := []) (D := []) (H := [.int .i64 0, .int .i64 0]) CT_ok rfl K126_ok Spec3OK.none (c := Try.f116.body.get rfl) rfl ok116 400 rfl ?_ ?_
    · repeat' (first | refine condP_ff hb ?_ | with_reducible exact holds_none | with_reducible exact all_nil | with_reducible refine holds_some ?_ | with_reducible refine andP_intro ?_ ?_ | with_reducible refine condP_intro (fun h => ?_) (fun h => ?_) | with_reducible refine psP_intro ?_ | with_reducible refine all_append ?_ ?_ | with_reducible refine all_under (fun h => ?_) | with_reducible refine all_one ?_ | with_reducible refine all_cons ?_ ?_)
      all_goals first | exact (rfl : @Eq (List Value) _ _) | with_reducible exact le_goal (Nat.le_of_ble_eq_true rfl) | with_reducible exact fixd_goal rfl (Nat.le_of_ble_eq_true rfl) | (with_reducible refine hit_intro ?_ ?_ <;> (simp; done)) | exact (rfl : @Eq Value _ (Value.iface _ _)) | exact (rfl : @Eq Value _ (Value.agg _)) | (with_reducible refine veq_goal ?_; simp; done) | skip
    · rw [show a.drop i = [] from List.drop_eq_nil_of_le (by omega)]
      exact vint_ff hb rfl
  | succ n ih =>
    intro i hi
    have hlt : i < a.length := by omega
    have hb := idx_lt hlt
    have hih := ih (i + 1) (by omega)
    refine RunF.of_sRun (K := K126) (K3 := Spec3.none) (O := []) (D := [(19, .int .i64 a[i])]) (H := [.int .i64 (faultL (i + 1) (a.drop (i + 1))), .int .i64 (faultL (i + 1) (a.drop (i + 1)))]) CT_ok rfl K126_ok Spec3OK.none (c := Try.f116.body.get rfl) rfl ok116 400 rfl ?_ ?_
    · repeat' (first | refine condP_tt hb ?_ | with_reducible exact holds_none | with_reducible exact all_nil | with_reducible refine holds_some ?_ | with_reducible refine andP_intro ?_ ?_ | with_reducible refine condP_intro (fun h => ?_) (fun h => ?_) | with_reducible refine psP_intro ?_ | with_reducible refine all_append ?_ ?_ | with_reducible refine all_under (fun h => ?_) | with_reducible refine all_one ?_ | with_reducible refine all_cons ?_ ?_)
      all_goals first | exact (rfl : @Eq (List Value) _ _) | with_reducible exact le_goal (Nat.le_of_ble_eq_true rfl) | with_reducible exact fixd_goal rfl (Nat.le_of_ble_eq_true rfl) | (with_reducible refine hit_intro ?_ ?_ <;> (simp; done)) | exact (rfl : @Eq Value _ (Value.iface _ _)) | exact (rfl : @Eq Value _ (Value.agg _)) | (with_reducible refine veq_goal ?_; simp; done) | skip
      · exact in_range hlt
      · exact load_ints (by decide) (by simpa using hlt)
      · rw [loaded (by decide)]; simp [hlt]
      · (refine RunF.norm0 rfl ?_ hih; (repeat' (first | with_reducible exact simT_nil | refine simT_cons rfl rfl ?_ ?_)); all_goals (try first | with_reducible rfl | with_reducible exact congrArg (Value.int .i64) (wrap_succ (by omega)) | exact (rfl : _ = Value.iface _ _) | exact (rfl : Value.int .i64 0 = _) | (simp; done)))
      · exact in_range hlt
      · exact load_ints (by decide) (by simpa using hlt)
      · rw [loaded (by decide)]; simp [hlt]
      · (refine RunF.norm0 rfl ?_ hih; (repeat' (first | with_reducible exact simT_nil | refine simT_cons rfl rfl ?_ ?_)); all_goals (try first | with_reducible rfl | with_reducible exact congrArg (Value.int .i64) (wrap_succ (by omega)) | exact (rfl : _ = Value.iface _ _) | exact (rfl : Value.int .i64 0 = _) | (simp; done)))
    · refine vint_tt hb ?_
      rw [List.drop_eq_getElem_cons hlt]
      simp [faultL]
      grind
theorem c116 (w : WayT) : Fz CT 116 [wayP w] (.int .i64 w.fault) := by
  have := l116 w.list (by simp [WayT.list]) 7 0 rfl
  refine Fz.of_sRun (K := K126) (K3 := Spec3.none) (O := []) (D := [(7, intsV .i64 w.list)]) (k := 400) (H := [.int .i64 w.fault]) CT_ok rfl K126_ok Spec3OK.none (c := Try.f116.body.get rfl) Try.func116 rfl (Nat.le_of_ble_eq_true rfl) (by decide) rfl ok116 rfl ?_ ?_
  · repeat' (first | with_reducible exact holds_none | with_reducible exact all_nil | with_reducible refine holds_some ?_ | with_reducible refine andP_intro ?_ ?_ | with_reducible refine condP_intro (fun h => ?_) (fun h => ?_) | with_reducible refine psP_intro ?_ | with_reducible refine all_append ?_ ?_ | with_reducible refine all_under (fun h => ?_) | with_reducible refine all_one ?_ | with_reducible refine all_cons ?_ ?_)
    all_goals first | exact (rfl : @Eq (List Value) _ _) | with_reducible exact le_goal (Nat.le_of_ble_eq_true rfl) | with_reducible exact fixd_goal rfl (Nat.le_of_ble_eq_true rfl) | (with_reducible refine hit_intro ?_ ?_ <;> (simp; done)) | exact (rfl : @Eq Value _ (Value.iface _ _)) | exact (rfl : @Eq Value _ (Value.agg _)) | (with_reducible refine veq_goal ?_; simp; done) | skip
    (refine RunF.norm0 rfl ?_ this; (repeat' (first | with_reducible exact simT_nil | refine simT_cons rfl rfl ?_ ?_)); all_goals (try first | with_reducible rfl | with_reducible exact congrArg (Value.int .i64) (wrap_succ (by omega)) | exact (rfl : _ = Value.iface _ _) | exact (rfl : Value.int .i64 0 = _) | (simp; done)))
  · rfl
def K116 : Spec := Spec.add K126 116 (fam (fun (p : WayT) => [wayP p]) (fun v => wayD (v.getD 0 .nilFunc)) (fun (p : WayT) => True) (fun (p : WayT) => .int .i64 p.fault))
theorem K116_ok : SpecOK CT K116 := SpecOK.add K126_ok (fam_ok fun p hp => c116 p)

theorem ok54 : codeOk CT Try.f54 (Try.f54.body.get rfl) = true := by kernel_rfl
theorem l54 (a : List Int) (hl : a.length ≤ 1000) : ∀ (n i : Nat), i + n = a.length → RunF CT Try.f54 (atLoop Try.f54 0) [(6, intsV .i64 a), (7, .int .i64 a.length), (8, .int .i64 i)] [] (.int .i64 (faultL i (a.drop i))) := by
  intro n
  induction n with
  | zero =>
    intro i hi
    have hb := idx_ge (i := i) (n := a.length) (by omega)
    refine RunF.of_sRun (K := K116) (K3 := Spec3.none) (O := []) (D := []) (H := [.int .i64 0, .int .i64 0]) CT_ok rfl K116_ok Spec3OK.none (c := Try.f54.body.get rfl) rfl ok54 400 rfl ?_ ?_
    · repeat' (first | refine condP_ff hb ?_ | with_reducible exact holds_none | with_reducible exact all_nil | with_reducible refine holds_some ?_ | with_reducible refine andP_intro ?_ ?_ | with_reducible refine condP_intro (fun h => ?_) (fun h => ?_) | with_reducible refine psP_intro ?_ | with_reducible refine all_append ?_ ?_ | with_reducible refine all_under (fun h => ?_) | with_reducible refine all_one ?_ | with_reducible refine all_cons ?_ ?_)
      all_goals first | exact (rfl : @Eq (List Value) _ _) | with_reducible exact le_goal (Nat.le_of_ble_eq_true rfl) | with_reducible exact fixd_goal rfl (Nat.le_of_ble_eq_true rfl) | (with_reducible refine hit_intro ?_ ?_ <;> (simp; done)) | exact (rfl : @Eq Value _ (Value.iface _ _)) | exact (rfl : @Eq Value _ (Value.agg _)) | (with_reducible refine veq_goal ?_; simp; done) | skip
    · rw [show a.drop i = [] from List.drop_eq_nil_of_le (by omega)]
      exact vint_ff hb rfl
  | succ n ih =>
    intro i hi
    have hlt : i < a.length := by omega
    have hb := idx_lt hlt
    have hih := ih (i + 1) (by omega)
    refine RunF.of_sRun (K := K116) (K3 := Spec3.none) (O := []) (D := [(12, .int .i64 a[i])]) (H := [.int .i64 (faultL (i + 1) (a.drop (i + 1)))]) CT_ok rfl K116_ok Spec3OK.none (c := Try.f54.body.get rfl) rfl ok54 400 rfl ?_ ?_
    · repeat' (first | refine condP_tt hb ?_ | with_reducible exact holds_none | with_reducible exact all_nil | with_reducible refine holds_some ?_ | with_reducible refine andP_intro ?_ ?_ | with_reducible refine condP_intro (fun h => ?_) (fun h => ?_) | with_reducible refine psP_intro ?_ | with_reducible refine all_append ?_ ?_ | with_reducible refine all_under (fun h => ?_) | with_reducible refine all_one ?_ | with_reducible refine all_cons ?_ ?_)
      all_goals first | exact (rfl : @Eq (List Value) _ _) | with_reducible exact le_goal (Nat.le_of_ble_eq_true rfl) | with_reducible exact fixd_goal rfl (Nat.le_of_ble_eq_true rfl) | (with_reducible refine hit_intro ?_ ?_ <;> (simp; done)) | exact (rfl : @Eq Value _ (Value.iface _ _)) | exact (rfl : @Eq Value _ (Value.agg _)) | (with_reducible refine veq_goal ?_; simp; done) | skip
      · exact in_range hlt
      · exact load_ints (by decide) (by simpa using hlt)
      · rw [loaded (by decide)]; simp [hlt]
      · (refine RunF.norm0 rfl ?_ hih; (repeat' (first | with_reducible exact simT_nil | refine simT_cons rfl rfl ?_ ?_)); all_goals (try first | with_reducible rfl | with_reducible exact congrArg (Value.int .i64) (wrap_succ (by omega)) | exact (rfl : _ = Value.iface _ _) | exact (rfl : Value.int .i64 0 = _) | (simp; done)))
    · refine vint_tt hb ?_
      rw [List.drop_eq_getElem_cons hlt]
      simp [faultL]
      grind
theorem c54 (w : WayT) : Fz CT 54 [wayV w] (.int .i64 w.fault) := by
  have := l54 w.list (by simp [WayT.list]) 7 0 rfl
  refine Fz.of_sRun (K := K116) (K3 := Spec3.none) (O := []) (D := [(5, wayV w), (6, intsV .i64 w.list)]) (k := 400) (H := [.int .i64 w.fault]) CT_ok rfl K116_ok Spec3OK.none (c := Try.f54.body.get rfl) Try.func54 rfl (Nat.le_of_ble_eq_true rfl) (by decide) rfl ok54 rfl ?_ ?_
  · repeat' (first | with_reducible exact holds_none | with_reducible exact all_nil | with_reducible refine holds_some ?_ | with_reducible refine andP_intro ?_ ?_ | with_reducible refine condP_intro (fun h => ?_) (fun h => ?_) | with_reducible refine psP_intro ?_ | with_reducible refine all_append ?_ ?_ | with_reducible refine all_under (fun h => ?_) | with_reducible refine all_one ?_ | with_reducible refine all_cons ?_ ?_)
    all_goals first | exact (rfl : @Eq (List Value) _ _) | with_reducible exact le_goal (Nat.le_of_ble_eq_true rfl) | with_reducible exact fixd_goal rfl (Nat.le_of_ble_eq_true rfl) | (with_reducible refine hit_intro ?_ ?_ <;> (simp; done)) | exact (rfl : @Eq Value _ (Value.iface _ _)) | exact (rfl : @Eq Value _ (Value.agg _)) | (with_reducible refine veq_goal ?_; simp; done) | skip
    (refine RunF.norm0 rfl ?_ this; (repeat' (first | with_reducible exact simT_nil | refine simT_cons rfl rfl ?_ ?_)); all_goals (try first | with_reducible rfl | with_reducible exact congrArg (Value.int .i64) (wrap_succ (by omega)) | exact (rfl : _ = Value.iface _ _) | exact (rfl : Value.int .i64 0 = _) | (simp; done)))
  · rfl
def K54 : Spec := Spec.add K116 54 (fam (fun (p : WayT) => [wayV p]) (fun v => wayD (v.getD 0 .nilFunc)) (fun (p : WayT) => True) (fun (p : WayT) => .int .i64 p.fault))
theorem K54_ok : SpecOK CT K54 := SpecOK.add K116_ok (fam_ok fun p hp => c54 p)
end Go.Ab
