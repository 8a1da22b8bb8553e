/- What the law FnPosts calls. -/
import Derived.Test.YtkoahogalplhhaaC17
namespace Go.Ab
open Go.Proofs
set_option maxRecDepth 100000
set_option linter.unusedVariables false
set_option linter.unusedSimpArgs false
noncomputable section
theorem u8_wf {n : Int} (h0 : 0 ≤ n) (h1 : n < 256) : wfI .u8 n := by
  simp only [wfI, Lit.wf, Bool.and_eq_true, decide_eq_true_eq]
  have e1 : IntKind.u8.min = 0 := rfl
  have e2 : IntKind.u8.max = 255 := rfl
  omega
theorem bytes_wf {d : List Int} (h : bytesOk d) : ∀ n ∈ d, wfI .u8 n := fun n hn => u8_wf (h n hn).1 (h n hn).2
theorem ok49 : codeOk CT Try.f49 (Try.f49.body.get rfl) = true := by kernel_rfl
theorem c49 (d : List Int) : Fz CT 49 [intsV .u8 d] (.bool (decide ((d.length : Int) > 1048576))) := by
  refine Fz.of_sRun (K := K128) (K3 := Spec3.none) (O := []) (D := []) (k := 400) (H := []) CT_ok rfl K128_ok Spec3OK.none (c := Try.f49.body.get rfl) Try.func49 rfl (Nat.le_of_ble_eq_true rfl) (by decide) rfl ok49 rfl ?_ ?_
  · repeat' (first | with_reducible exact holds_none | with_reducible exact all_nil | with_reducible refine holds_some ?_ | with_reducible refine andP_intro ?_ ?_ | with_reducible refine condP_intro (fun h => ?_) (fun h => ?_) | with_reducible refine psP_intro ?_ | with_reducible refine all_append ?_ ?_ | with_reducible refine all_under (fun h => ?_) | with_reducible refine all_one ?_ | with_reducible refine all_cons ?_ ?_)
    all_goals first | exact (rfl : @Eq (List Value) _ _) | with_reducible exact le_goal (Nat.le_of_ble_eq_true rfl) | with_reducible exact fixd_goal rfl (Nat.le_of_ble_eq_true rfl) | (with_reducible refine hit_intro ?_ ?_ <;> (simp; done)) | exact (rfl : @Eq Value _ (Value.iface _ _)) | exact (rfl : @Eq Value _ (Value.agg _)) | (with_reducible refine veq_goal ?_; simp; done) | skip
  · rfl
def K49 : Spec := Spec.add K128 49 (fam (fun (p : (List Int)) => [intsV .u8 p]) (fun v => intsD (v.getD 0 .nilFunc)) (fun (p : (List Int)) => True) (fun (p : (List Int)) => .bool (decide ((p.length : Int) > 1048576))))
theorem K49_ok : SpecOK CT K49 := SpecOK.add K128_ok (fam_ok fun p hp => c49 p)
theorem ok52 : codeOk CT Try.f52 (Try.f52.body.get rfl) = true := by kernel_rfl
theorem c52 (a : List Int) (b : List Int) (hp : bytesOk a ∧ bytesOk b) : Fz CT 52 [intsV .u8 a, intsV .u8 b] (.bool (a == b)) := by
  refine Fz.of_sRun (K := K49) (K3 := Spec3.none) (O := []) (D := [(6, .string (bstr a)), (8, .string (bstr b)), (9, .bool (a == b))]) (k := 400) (H := []) CT_ok rfl K49_ok Spec3OK.none (c := Try.f52.body.get rfl) Try.func52 rfl (Nat.le_of_ble_eq_true rfl) (by decide) rfl ok52 rfl ?_ ?_
  · repeat' (first | with_reducible exact holds_none | with_reducible exact all_nil | with_reducible refine holds_some ?_ | with_reducible refine andP_intro ?_ ?_ | with_reducible refine condP_intro (fun h => ?_) (fun h => ?_) | with_reducible refine psP_intro ?_ | with_reducible refine all_append ?_ ?_ | with_reducible refine all_under (fun h => ?_) | with_reducible refine all_one ?_ | with_reducible refine all_cons ?_ ?_)
    all_goals first | exact (rfl : @Eq (List Value) _ _) | with_reducible exact le_goal (Nat.le_of_ble_eq_true rfl) | with_reducible exact fixd_goal rfl (Nat.le_of_ble_eq_true rfl) | (with_reducible refine hit_intro ?_ ?_ <;> (simp; done)) | exact (rfl : @Eq Value _ (Value.iface _ _)) | exact (rfl : @Eq Value _ (Value.agg _)) | (with_reducible refine veq_goal ?_; simp; done) | skip
    · exact conv_goal _
    · exact conv_val _
    · exact conv_goal _
    · exact conv_val _
    · simp only [bstr_eq (bytes_wf hp.1) (bytes_wf hp.2)]
  · rfl
def K52 : Spec := Spec.add K49 52 (fam (fun (p : (List Int) × (List Int)) => [intsV .u8 p.1, intsV .u8 p.2]) (fun v => (intsD (v.getD 0 .nilFunc), intsD (v.getD 1 .nilFunc))) (fun (p : (List Int) × (List Int)) => bytesOk p.1 ∧ bytesOk p.2) (fun (p : (List Int) × (List Int)) => .bool (p.1 == p.2)))
theorem K52_ok : SpecOK CT K52 := SpecOK.add K49_ok (fam_ok fun p hp => c52 p.1 p.2 hp)
theorem ok53 : codeOk CT Try.f53 (Try.f53.body.get rfl) = true := by kernel_rfl
theorem c53 (w : WayT) (n : Int) (hp : w.fault = 0 ∧ (n = 128 ∨ n = 256)) : Fz CT 53 [wayV w, .int .i64 n] (.bool (andI w.f n == n)) := by
  obtain ⟨hf, hn⟩ := hp
  have e1 : andI 128 127 = 0 := by decide
  have e2 : andI 256 255 = 0 := by decide
  refine Fz.of_sRun (K := K52) (K3 := Spec3.none) (O := []) (D := [(5, wayV w), (6, .int .i64 0), (10, .bool true), (15, .int .i64 (n - 1)), (17, .bool true), (20, wayV w), (22, .bool (andI w.f n == n))]) (k := 400) (H := []) CT_ok rfl K52_ok Spec3OK.none (c := Try.f53.body.get rfl) Try.func53 rfl (Nat.le_of_ble_eq_true rfl) (by decide) rfl ok53 rfl ?_ ?_
  · repeat' (first | with_reducible exact holds_none | with_reducible exact all_nil | with_reducible refine holds_some ?_ | with_reducible refine andP_intro ?_ ?_ | with_reducible refine condP_intro (fun h => ?_) (fun h => ?_) | with_reducible refine psP_intro ?_ | with_reducible refine all_append ?_ ?_ | with_reducible refine all_under (fun h => ?_) | with_reducible refine all_one ?_ | with_reducible refine all_cons ?_ ?_)
    all_goals first | exact (rfl : @Eq (List Value) _ _) | with_reducible exact le_goal (Nat.le_of_ble_eq_true rfl) | with_reducible exact fixd_goal rfl (Nat.le_of_ble_eq_true rfl) | (with_reducible refine hit_intro ?_ ?_ <;> (simp; done)) | exact (rfl : @Eq Value _ (Value.iface _ _)) | exact (rfl : @Eq Value _ (Value.agg _)) | (with_reducible refine veq_goal ?_; simp; done) | skip
    all_goals first | (simp [hf]; done) | (rcases hn with rfl | rfl <;> rfl) | trace_state
  · rfl
def K53 : Spec := Spec.add K52 53 (fam (fun (p : WayT × Int) => [wayV p.1, .int .i64 p.2]) (fun v => (wayD (v.getD 0 .nilFunc), intOf (v.getD 1 .nilFunc))) (fun (p : WayT × Int) => p.1.fault = 0 ∧ (p.2 = 128 ∨ p.2 = 256)) (fun (p : WayT × Int) => .bool (andI p.1.f p.2 == p.2)))
theorem K53_ok : SpecOK CT K53 := SpecOK.add K52_ok (fam_ok fun p hp => c53 p.1 p.2 hp)
/-- Line feeds. -/
def feedsN : List Int → Int
  | [] => 0
  | x :: xs => (bif x == 10 then 1 else 0) + feedsN xs
theorem feedsN_le : ∀ d, 0 ≤ feedsN d ∧ feedsN d ≤ d.length
  | [] => by simp [feedsN]
  | x :: xs => by
    have := feedsN_le xs
    unfold feedsN
    cases x == 10 <;> simp <;> omega
abbrev frV (d : List Int) : Value := resV (bif decide (d.length ≤ 1000) then 0 else 2) (bif decide (d.length ≤ 1000) then feedsN d else 0)
theorem ok15 : codeOk CT Try.f15 (Try.f15.body.get rfl) = true := by kernel_rfl
theorem l15 (d : List Int) (hl : d.length ≤ 1000) : ∀ (n i : Nat) (c : Int), i + n = d.length → 0 ≤ c → c ≤ i → RunF CT Try.f15 (atLoop Try.f15 0) [(0, intsV .u8 d), (2, .pointer (some ⟨0, 0, none⟩)), (3, .int .i64 c), (4, .int .i64 i)] [⟨[.int .i64 0, .int .i64 0], 0, true, true⟩] (resV 0 (c + feedsN (d.drop i))) := by
  intro n
  induction n with
  | zero =>
    intro i c hi h0 h1
    have hb := idx_ge (i := i) (n := d.length) (by omega)
    rw [show d.drop i = [] from List.drop_eq_nil_of_le (by omega), feedsN, Int.add_zero]
    refine RunF.of_sRun (K := K53) (K3 := Spec3.none) (O := []) (D := [(100012, .bool false)]) (H := []) CT_ok rfl K53_ok Spec3OK.none (c := Try.f15.body.get rfl) rfl ok15 400 rfl ?_ ?_
    · repeat' (first | with_reducible exact holds_none | with_reducible exact all_nil | with_reducible refine holds_some ?_ | with_reducible refine andP_intro ?_ ?_ | with_reducible refine condP_intro (fun h => ?_) (fun h => ?_) | with_reducible refine psP_intro ?_ | with_reducible refine all_append ?_ ?_ | with_reducible refine all_under (fun h => ?_) | with_reducible refine all_one ?_ | with_reducible refine all_cons ?_ ?_)
      all_goals first | exact (rfl : @Eq (List Value) _ _) | with_reducible exact le_goal (Nat.le_of_ble_eq_true rfl) | with_reducible exact fixd_goal rfl (Nat.le_of_ble_eq_true rfl) | (with_reducible refine hit_intro ?_ ?_ <;> (simp; done)) | exact (rfl : @Eq Value _ (Value.iface _ _)) | exact (rfl : @Eq Value _ (Value.agg _)) | (with_reducible refine veq_goal ?_; simp; done) | skip
      exact hb
    · rfl
  | succ n ih =>
    intro i c hi h0 h1
    have hlt : i < d.length := by omega
    have hb := idx_lt hlt
    have g1 := ih (i + 1) (c + 1) (by omega) (by omega) (by omega)
    have g2 := ih (i + 1) c (by omega) (by omega) (by omega)
    rw [List.drop_eq_getElem_cons hlt, feedsN]
    cases hc : d[i] == 10 with
    | true =>
      rw [show c + ((bif true then 1 else 0) + feedsN (d.drop (i + 1))) = c + 1 + feedsN (d.drop (i + 1)) by simp; omega]
      refine RunF.of_sRun (K := K53) (K3 := Spec3.none) (O := []) (D := [(100012, .bool true), (100019, .bool true), (18, .int .u8 d[i]), (21, .int .i64 (c + 1))]) (H := [resV 0 (c + 1 + feedsN (d.drop (i + 1)))]) CT_ok rfl K53_ok Spec3OK.none (c := Try.f15.body.get rfl) rfl ok15 400 rfl ?_ ?_
      · repeat' (first | with_reducible exact holds_none | with_reducible exact all_nil | with_reducible refine holds_some ?_ | with_reducible refine andP_intro ?_ ?_ | with_reducible refine condP_intro (fun h => ?_) (fun h => ?_) | with_reducible refine psP_intro ?_ | with_reducible refine all_append ?_ ?_ | with_reducible refine all_under (fun h => ?_) | with_reducible refine all_one ?_ | with_reducible refine all_cons ?_ ?_)
        all_goals first | exact (rfl : @Eq (List Value) _ _) | with_reducible exact le_goal (Nat.le_of_ble_eq_true rfl) | with_reducible exact fixd_goal rfl (Nat.le_of_ble_eq_true rfl) | (with_reducible refine hit_intro ?_ ?_ <;> (simp; done)) | exact (rfl : @Eq Value _ (Value.iface _ _)) | exact (rfl : @Eq Value _ (Value.agg _)) | (with_reducible refine veq_goal ?_; simp; done) | skip
        all_goals first | exact in_range hlt | exact load_ints (by decide) (by simpa using hlt) | (rw [loaded (by decide)]; simp [hlt]; done) | skip
        all_goals first | exact hb | exact hc | exact congrArg (Value.int .i64) (wrap64 (by omega) (by omega)) | skip
        (refine RunF.normM rfl [0] (by decide) ?_ ?_ g1; focus (repeat' (first | with_reducible exact simT_nil | refine simT_cons rfl rfl ?_ ?_)) <;> (first | with_reducible rfl | with_reducible exact congrArg (Value.int .i64) (wrap_succ (by omega)) | exact (rfl : _ = Value.iface _ _) | exact (rfl : _ = Value.slice _ _ _) | exact (rfl : Value.int .i64 0 = _) | (simp; done)))
        exact simB_leaf rfl rfl rfl rfl rfl rfl simB_nil
      · rfl
    | false =>
      rw [show c + ((bif false then 1 else 0) + feedsN (d.drop (i + 1))) = c + feedsN (d.drop (i + 1)) by simp]
      refine RunF.of_sRun (K := K53) (K3 := Spec3.none) (O := []) (D := [(100012, .bool true), (100019, .bool false), (18, .int .u8 d[i])]) (H := [resV 0 (c + feedsN (d.drop (i + 1)))]) CT_ok rfl K53_ok Spec3OK.none (c := Try.f15.body.get rfl) rfl ok15 400 rfl ?_ ?_
      · repeat' (first | with_reducible exact holds_none | with_reducible exact all_nil | with_reducible refine holds_some ?_ | with_reducible refine andP_intro ?_ ?_ | with_reducible refine condP_intro (fun h => ?_) (fun h => ?_) | with_reducible refine psP_intro ?_ | with_reducible refine all_append ?_ ?_ | with_reducible refine all_under (fun h => ?_) | with_reducible refine all_one ?_ | with_reducible refine all_cons ?_ ?_)
        all_goals first | exact (rfl : @Eq (List Value) _ _) | with_reducible exact le_goal (Nat.le_of_ble_eq_true rfl) | with_reducible exact fixd_goal rfl (Nat.le_of_ble_eq_true rfl) | (with_reducible refine hit_intro ?_ ?_ <;> (simp; done)) | exact (rfl : @Eq Value _ (Value.iface _ _)) | exact (rfl : @Eq Value _ (Value.agg _)) | (with_reducible refine veq_goal ?_; simp; done) | skip
        all_goals first | exact in_range hlt | exact load_ints (by decide) (by simpa using hlt) | (rw [loaded (by decide)]; simp [hlt]; done) | skip
        all_goals first | exact hb | exact hc | skip
        (refine RunF.normM rfl [0] (by decide) ?_ ?_ g2; focus (repeat' (first | with_reducible exact simT_nil | refine simT_cons rfl rfl ?_ ?_)) <;> (first | with_reducible rfl | with_reducible exact congrArg (Value.int .i64) (wrap_succ (by omega)) | exact (rfl : _ = Value.iface _ _) | exact (rfl : _ = Value.slice _ _ _) | exact (rfl : Value.int .i64 0 = _) | (simp; done)))
        exact simB_leaf rfl rfl rfl rfl rfl rfl simB_nil
      · rfl
theorem c15 (d : List Int) : Fz CT 15 [intsV .u8 d] (frV d) := by
  cases hc : decide (d.length ≤ 1000) with
  | true =>
    have hl : d.length ≤ 1000 := by simpa using hc
    have h1 := l15 d hl d.length 0 0 (by omega) (by omega) (by omega)
    rw [Int.zero_add, List.drop_zero] at h1
    refine Fz.of_sRun (K := K53) (K3 := Spec3.none) (O := []) (D := [(100007, .bool false)]) (k := 400) (H := [resV 0 (feedsN d)]) CT_ok rfl K53_ok Spec3OK.none (c := Try.f15.body.get rfl) Try.func15 rfl (Nat.le_of_ble_eq_true rfl) (by decide) rfl ok15 rfl ?_ ?_
    · repeat' (first | with_reducible exact holds_none | with_reducible exact all_nil | with_reducible refine holds_some ?_ | with_reducible refine andP_intro ?_ ?_ | with_reducible refine condP_intro (fun h => ?_) (fun h => ?_) | with_reducible refine psP_intro ?_ | with_reducible refine all_append ?_ ?_ | with_reducible refine all_under (fun h => ?_) | with_reducible refine all_one ?_ | with_reducible refine all_cons ?_ ?_)
      all_goals first | exact (rfl : @Eq (List Value) _ _) | with_reducible exact le_goal (Nat.le_of_ble_eq_true rfl) | with_reducible exact fixd_goal rfl (Nat.le_of_ble_eq_true rfl) | (with_reducible refine hit_intro ?_ ?_ <;> (simp; done)) | exact (rfl : @Eq Value _ (Value.iface _ _)) | exact (rfl : @Eq Value _ (Value.agg _)) | (with_reducible refine veq_goal ?_; simp; done) | skip
      · exact decide_eq_false (by omega)
      · (refine RunF.normM rfl [0] (by decide) ?_ ?_ h1; focus (repeat' (first | with_reducible exact simT_nil | refine simT_cons rfl rfl ?_ ?_)) <;> (first | with_reducible rfl | with_reducible exact congrArg (Value.int .i64) (wrap_succ (by omega)) | exact (rfl : _ = Value.iface _ _) | exact (rfl : _ = Value.slice _ _ _) | exact (rfl : Value.int .i64 0 = _) | (simp; done)))
        exact simB_leaf rfl rfl rfl rfl rfl rfl simB_nil
    · unfold frV; rw [hc]; rfl
  | false =>
    have hl : ¬ d.length ≤ 1000 := by simpa using hc
    refine Fz.of_sRun (K := K53) (K3 := Spec3.none) (O := []) (D := [(100007, .bool true)]) (k := 400) (H := []) CT_ok rfl K53_ok Spec3OK.none (c := Try.f15.body.get rfl) Try.func15 rfl (Nat.le_of_ble_eq_true rfl) (by decide) rfl ok15 rfl ?_ ?_
    · repeat' (first | with_reducible exact holds_none | with_reducible exact all_nil | with_reducible refine holds_some ?_ | with_reducible refine andP_intro ?_ ?_ | with_reducible refine condP_intro (fun h => ?_) (fun h => ?_) | with_reducible refine psP_intro ?_ | with_reducible refine all_append ?_ ?_ | with_reducible refine all_under (fun h => ?_) | with_reducible refine all_one ?_ | with_reducible refine all_cons ?_ ?_)
      all_goals first | exact (rfl : @Eq (List Value) _ _) | with_reducible exact le_goal (Nat.le_of_ble_eq_true rfl) | with_reducible exact fixd_goal rfl (Nat.le_of_ble_eq_true rfl) | (with_reducible refine hit_intro ?_ ?_ <;> (simp; done)) | exact (rfl : @Eq Value _ (Value.iface _ _)) | exact (rfl : @Eq Value _ (Value.agg _)) | (with_reducible refine veq_goal ?_; simp; done) | skip
      exact decide_eq_true (by omega)
    · unfold frV; rw [hc]; rfl
def K15 : Spec := Spec.add K53 15 (fam (fun (p : (List Int)) => [intsV .u8 p]) (fun v => intsD (v.getD 0 .nilFunc)) (fun (p : (List Int)) => True) (fun (p : (List Int)) => frV p))
theorem K15_ok : SpecOK CT K15 := SpecOK.add K53_ok (fam_ok fun p hp => c15 p)
theorem ok17 : codeOk CT Try.f17 (Try.f17.body.get rfl) = true := by kernel_rfl
theorem l17 (d : List Int) (hl : d.length ≤ 1000) : ∀ (n i : Nat) (c : Int), i + n = d.length → 0 ≤ c → c ≤ i → RunF CT Try.f17 (atLoop Try.f17 0) [(2, .pointer (some ⟨0, 0, none⟩)), (4, .int .i64 c), (13, intsV .u8 d), (14, .int .i64 d.length), (15, .int .i64 i)] [⟨[.int .i64 0, .int .i64 0], 0, true, true⟩] (resV 0 (c + feedsN (d.drop i))) := by
  intro n
  induction n with
  | zero =>
    intro i c hi h0 h1
    have hb := idx_ge (i := i) (n := d.length) (by omega)
    rw [show d.drop i = [] from List.drop_eq_nil_of_le (by omega), feedsN, Int.add_zero]
    refine RunF.of_sRun (K := K15) (K3 := Spec3.none) (O := []) (D := [(100016, .bool false)]) (H := []) CT_ok rfl K15_ok Spec3OK.none (c := Try.f17.body.get rfl) rfl ok17 400 rfl ?_ ?_
    · repeat' (first | with_reducible exact holds_none | with_reducible exact all_nil | with_reducible refine holds_some ?_ | with_reducible refine andP_intro ?_ ?_ | with_reducible refine condP_intro (fun h => ?_) (fun h => ?_) | with_reducible refine psP_intro ?_ | with_reducible refine all_append ?_ ?_ | with_reducible refine all_under (fun h => ?_) | with_reducible refine all_one ?_ | with_reducible refine all_cons ?_ ?_)
      all_goals first | exact (rfl : @Eq (List Value) _ _) | with_reducible exact le_goal (Nat.le_of_ble_eq_true rfl) | with_reducible exact fixd_goal rfl (Nat.le_of_ble_eq_true rfl) | (with_reducible refine hit_intro ?_ ?_ <;> (simp; done)) | exact (rfl : @Eq Value _ (Value.iface _ _)) | exact (rfl : @Eq Value _ (Value.agg _)) | (with_reducible refine veq_goal ?_; simp; done) | skip
      exact hb
    · rfl
  | succ n ih =>
    intro i c hi h0 h1
    have hlt : i < d.length := by omega
    have hb := idx_lt hlt
    have g1 := ih (i + 1) (c + 1) (by omega) (by omega) (by omega)
    have g2 := ih (i + 1) c (by omega) (by omega) (by omega)
    rw [List.drop_eq_getElem_cons hlt, feedsN]
    cases hc : d[i] == 10 with
    | true =>
      rw [show c + ((bif true then 1 else 0) + feedsN (d.drop (i + 1))) = c + 1 + feedsN (d.drop (i + 1)) by simp; omega]
      refine RunF.of_sRun (K := K15) (K3 := Spec3.none) (O := []) (D := [(100016, .bool true), (100020, .bool true), (18, .int .u8 d[i]), (22, .int .i64 (c + 1))]) (H := [resV 0 (c + 1 + feedsN (d.drop (i + 1)))]) CT_ok rfl K15_ok Spec3OK.none (c := Try.f17.body.get rfl) rfl ok17 400 rfl ?_ ?_
      · repeat' (first | with_reducible exact holds_none | with_reducible exact all_nil | with_reducible refine holds_some ?_ | with_reducible refine andP_intro ?_ ?_ | with_reducible refine condP_intro (fun h => ?_) (fun h => ?_) | with_reducible refine psP_intro ?_ | with_reducible refine all_append ?_ ?_ | with_reducible refine all_under (fun h => ?_) | with_reducible refine all_one ?_ | with_reducible refine all_cons ?_ ?_)
        all_goals first | exact (rfl : @Eq (List Value) _ _) | with_reducible exact le_goal (Nat.le_of_ble_eq_true rfl) | with_reducible exact fixd_goal rfl (Nat.le_of_ble_eq_true rfl) | (with_reducible refine hit_intro ?_ ?_ <;> (simp; done)) | exact (rfl : @Eq Value _ (Value.iface _ _)) | exact (rfl : @Eq Value _ (Value.agg _)) | (with_reducible refine veq_goal ?_; simp; done) | skip
        all_goals first | exact in_range hlt | exact load_ints (by decide) (by simpa using hlt) | (rw [loaded (by decide)]; simp [hlt]; done) | skip
        all_goals first | exact hb | exact hc | exact congrArg (Value.int .i64) (wrap64 (by omega) (by omega)) | skip
        (refine RunF.normM rfl [0] (by decide) ?_ ?_ g1; focus (repeat' (first | with_reducible exact simT_nil | refine simT_cons rfl rfl ?_ ?_)) <;> (first | with_reducible rfl | with_reducible exact congrArg (Value.int .i64) (wrap_succ (by omega)) | exact (rfl : _ = Value.iface _ _) | exact (rfl : _ = Value.slice _ _ _) | exact (rfl : Value.int .i64 0 = _) | (simp; done)))
        exact simB_leaf rfl rfl rfl rfl rfl rfl simB_nil
      · rfl
    | false =>
      rw [show c + ((bif false then 1 else 0) + feedsN (d.drop (i + 1))) = c + feedsN (d.drop (i + 1)) by simp]
      refine RunF.of_sRun (K := K15) (K3 := Spec3.none) (O := []) (D := [(100016, .bool true), (100020, .bool false), (18, .int .u8 d[i])]) (H := [resV 0 (c + feedsN (d.drop (i + 1)))]) CT_ok rfl K15_ok Spec3OK.none (c := Try.f17.body.get rfl) rfl ok17 400 rfl ?_ ?_
      · repeat' (first | with_reducible exact holds_none | with_reducible exact all_nil | with_reducible refine holds_some ?_ | with_reducible refine andP_intro ?_ ?_ | with_reducible refine condP_intro (fun h => ?_) (fun h => ?_) | with_reducible refine psP_intro ?_ | with_reducible refine all_append ?_ ?_ | with_reducible refine all_under (fun h => ?_) | with_reducible refine all_one ?_ | with_reducible refine all_cons ?_ ?_)
        all_goals first | exact (rfl : @Eq (List Value) _ _) | with_reducible exact le_goal (Nat.le_of_ble_eq_true rfl) | with_reducible exact fixd_goal rfl (Nat.le_of_ble_eq_true rfl) | (with_reducible refine hit_intro ?_ ?_ <;> (simp; done)) | exact (rfl : @Eq Value _ (Value.iface _ _)) | exact (rfl : @Eq Value _ (Value.agg _)) | (with_reducible refine veq_goal ?_; simp; done) | skip
        all_goals first | exact in_range hlt | exact load_ints (by decide) (by simpa using hlt) | (rw [loaded (by decide)]; simp [hlt]; done) | skip
        all_goals first | exact hb | exact hc | skip
        (refine RunF.normM rfl [0] (by decide) ?_ ?_ g2; focus (repeat' (first | with_reducible exact simT_nil | refine simT_cons rfl rfl ?_ ?_)) <;> (first | with_reducible rfl | with_reducible exact congrArg (Value.int .i64) (wrap_succ (by omega)) | exact (rfl : _ = Value.iface _ _) | exact (rfl : _ = Value.slice _ _ _) | exact (rfl : Value.int .i64 0 = _) | (simp; done)))
        exact simB_leaf rfl rfl rfl rfl rfl rfl simB_nil
      · rfl
theorem c17 (d : List Int) : Fz CT 17 [intsV .u8 d] (frV d) := by
  cases hc : decide (d.length ≤ 1000) with
  | true =>
    have hl : d.length ≤ 1000 := by simpa using hc
    have h1 := l17 d hl d.length 0 0 (by omega) (by omega) (by omega)
    rw [Int.zero_add, List.drop_zero] at h1
    refine Fz.of_sRun (K := K15) (K3 := Spec3.none) (O := []) (D := [(8, .int .i64 0), (100010, .bool false)]) (k := 400) (H := [resV 0 (feedsN d)]) CT_ok rfl K15_ok Spec3OK.none (c := Try.f17.body.get rfl) Try.func17 rfl (Nat.le_of_ble_eq_true rfl) (by decide) rfl ok17 rfl ?_ ?_
    · repeat' (first | with_reducible exact holds_none | with_reducible exact all_nil | with_reducible refine holds_some ?_ | with_reducible refine andP_intro ?_ ?_ | with_reducible refine condP_intro (fun h => ?_) (fun h => ?_) | with_reducible refine psP_intro ?_ | with_reducible refine all_append ?_ ?_ | with_reducible refine all_under (fun h => ?_) | with_reducible refine all_one ?_ | with_reducible refine all_cons ?_ ?_)
      all_goals first | exact (rfl : @Eq (List Value) _ _) | with_reducible exact le_goal (Nat.le_of_ble_eq_true rfl) | with_reducible exact fixd_goal rfl (Nat.le_of_ble_eq_true rfl) | (with_reducible refine hit_intro ?_ ?_ <;> (simp; done)) | exact (rfl : @Eq Value _ (Value.iface _ _)) | exact (rfl : @Eq Value _ (Value.agg _)) | (with_reducible refine veq_goal ?_; simp; done) | skip
      · exact congrArg (Value.int .i64) (by simp [hl])
      · rfl
      · (refine RunF.normM rfl [0] (by decide) ?_ ?_ h1; focus (repeat' (first | with_reducible exact simT_nil | refine simT_cons rfl rfl ?_ ?_)) <;> (first | with_reducible rfl | with_reducible exact congrArg (Value.int .i64) (wrap_succ (by omega)) | exact (rfl : _ = Value.iface _ _) | exact (rfl : _ = Value.slice _ _ _) | exact (rfl : Value.int .i64 0 = _) | (simp; done)))
        exact simB_leaf rfl rfl rfl rfl rfl rfl simB_nil
    · unfold frV; rw [hc]; rfl
  | false =>
    have hl : ¬ d.length ≤ 1000 := by simpa using hc
    refine Fz.of_sRun (K := K15) (K3 := Spec3.none) (O := []) (D := [(8, .int .i64 2), (100010, .bool true)]) (k := 400) (H := []) CT_ok rfl K15_ok Spec3OK.none (c := Try.f17.body.get rfl) Try.func17 rfl (Nat.le_of_ble_eq_true rfl) (by decide) rfl ok17 rfl ?_ ?_
    · repeat' (first | with_reducible exact holds_none | with_reducible exact all_nil | with_reducible refine holds_some ?_ | with_reducible refine andP_intro ?_ ?_ | with_reducible refine condP_intro (fun h => ?_) (fun h => ?_) | with_reducible refine psP_intro ?_ | with_reducible refine all_append ?_ ?_ | with_reducible refine all_under (fun h => ?_) | with_reducible refine all_one ?_ | with_reducible refine all_cons ?_ ?_)
      all_goals first | exact (rfl : @Eq (List Value) _ _) | with_reducible exact le_goal (Nat.le_of_ble_eq_true rfl) | with_reducible exact fixd_goal rfl (Nat.le_of_ble_eq_true rfl) | (with_reducible refine hit_intro ?_ ?_ <;> (simp; done)) | exact (rfl : @Eq Value _ (Value.iface _ _)) | exact (rfl : @Eq Value _ (Value.agg _)) | (with_reducible refine veq_goal ?_; simp; done) | skip
      · exact congrArg (Value.int .i64) (by simp [hl])
      · rfl
    · unfold frV; rw [hc]; rfl
def K17 : Spec := Spec.add K15 17 (fam (fun (p : (List Int)) => [intsV .u8 p]) (fun v => intsD (v.getD 0 .nilFunc)) (fun (p : (List Int)) => True) (fun (p : (List Int)) => frV p))
theorem K17_ok : SpecOK CT K17 := SpecOK.add K15_ok (fam_ok fun p hp => c17 p)

/-- A way and bytes, as they are drawn. -/
noncomputable def drawPost (s : List Int) : WayT × List Int := open Classical in
  if h : s.length ≤ 1048576 ∧ bytesOk s then (let h1 := d50 s h.1 h.2; (h1.choose, h1.choose_spec.choose)) else (⟨0, 0, 0, 0, 0, 0, 0⟩, [])
theorem drawPost_ok {s : List Int} (h : s.length ≤ 1048576 ∧ bytesOk s) : (drawPost s).2.length ≤ 1001 ∧ bytesOk (drawPost s).2 ∧ Fz CT 50 [intsV .u8 s] (.tuple #[wayV (drawPost s).1, intsV .u8 (drawPost s).2]) := by
  have h1 := d50 s h.1 h.2
  have e : drawPost s = (h1.choose, h1.choose_spec.choose) := by
    unfold drawPost
    rw [dif_pos h]
  rw [e]
  exact h1.choose_spec.choose_spec
theorem c50 (s : List Int) (hp : s.length ≤ 1048576 ∧ bytesOk s) : Fz CT 50 [intsV .u8 s] (.tuple #[wayV (drawPost s).1, intsV .u8 (drawPost s).2]) := (drawPost_ok hp).2.2
def K50 : Spec := Spec.add K17 50 (fam (fun (p : (List Int)) => [intsV .u8 p]) (fun v => intsD (v.getD 0 .nilFunc)) (fun (p : (List Int)) => p.length ≤ 1048576 ∧ bytesOk p) (fun (p : (List Int)) => .tuple #[wayV (drawPost p).1, intsV .u8 (drawPost p).2]))
theorem K50_ok : SpecOK CT K50 := SpecOK.add K17_ok (fam_ok fun p hp => c50 p hp)
theorem ok51 : codeOk CT Try.f51 (Try.f51.body.get rfl) = true := by kernel_rfl
theorem c51 (s : List Int) (hp : s.length ≤ 1048576 ∧ bytesOk s) : Fz CT 51 [intsV .u8 s] (.tuple #[wayV (drawPost s).1, intsV .u8 (drawPost s).2]) := by
  refine Fz.of_sRun (K := K50) (K3 := Spec3.none) (O := []) (D := [(5, .tuple #[wayV (drawPost s).1, intsV .u8 (drawPost s).2])]) (k := 400) (H := []) CT_ok rfl K50_ok Spec3OK.none (c := Try.f51.body.get rfl) Try.func51 rfl (Nat.le_of_ble_eq_true rfl) (by decide) rfl ok51 rfl ?_ ?_
  · repeat' (first | with_reducible exact holds_none | with_reducible exact all_nil | with_reducible refine holds_some ?_ | with_reducible refine andP_intro ?_ ?_ | with_reducible refine condP_intro (fun h => ?_) (fun h => ?_) | with_reducible refine psP_intro ?_ | with_reducible refine all_append ?_ ?_ | with_reducible refine all_under (fun h => ?_) | with_reducible refine all_one ?_ | with_reducible refine all_cons ?_ ?_)
    all_goals first | exact (rfl : @Eq (List Value) _ _) | with_reducible exact le_goal (Nat.le_of_ble_eq_true rfl) | with_reducible exact fixd_goal rfl (Nat.le_of_ble_eq_true rfl) | (with_reducible refine hit_intro ?_ ?_ <;> (simp; done)) | exact (rfl : @Eq Value _ (Value.iface _ _)) | exact (rfl : @Eq Value _ (Value.agg _)) | (with_reducible refine veq_goal ?_; simp; done) | skip
    exact hit_of s rfl (by simp) hp
  · rfl
def K51 : Spec := Spec.add K50 51 (fam (fun (p : (List Int)) => [intsV .u8 p]) (fun v => intsD (v.getD 0 .nilFunc)) (fun (p : (List Int)) => p.length ≤ 1048576 ∧ bytesOk p) (fun (p : (List Int)) => .tuple #[wayV (drawPost p).1, intsV .u8 (drawPost p).2]))
theorem K51_ok : SpecOK CT K51 := SpecOK.add K50_ok (fam_ok fun p hp => c51 p hp)
/-- The returns are taken out again. -/
theorem plain_post (b : Bool) : ∀ d, plainL b (postL b d) = d
  | [] => rfl
  | x :: xs => by
    have ih := plain_post b xs
    unfold postL
    cases h : x == 10 && b with
    | true =>
      simp only [Bool.and_eq_true, beq_iff_eq] at h
      obtain ⟨rfl, rfl⟩ := h
      simp [plainL, ih]
    | false =>
      simp only [cond_false, plainL, ih]
      cases hb : b
      · simp
      · subst hb
        cases xs with
        | nil => simp [postL]
        | cons y ys =>
          simp only [postL]
          cases hy : y == 10 <;> simp [hy]
theorem post_len (d : List Int) : ((postL true d).length : Int) = d.length + feedsN d := by
  induction d with
  | nil => rfl
  | cons x xs ih =>
    unfold postL feedsN
    cases x == 10 <;> simp <;> omega
theorem post_same (d : List Int) : postL false d = d := by
  induction d with
  | nil => rfl
  | cons x xs ih => simp [postL, ih]
end
end Go.Ab
