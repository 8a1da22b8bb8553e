/- The law FnExactDecodeMany, at all arguments. -/
import Derived.Test.YtkoahogalplhhaaC13
namespace Go.Ab
open Go.Proofs
set_option maxRecDepth 100000
set_option linter.unusedVariables false
set_option linter.unusedSimpArgs false
theorem hear_valid {d : DecT} {b : Int} (h : d.fault = 0) (h0 : 0 ≤ b) (h1 : b < 256) : (hearD d b).2.fault = 0 := by
  have hz : DecT.fault ⟨0, 0, 0⟩ = 0 := rfl
  have hfr : (freshD b).2.fault = 0 := by
    unfold freshD
    cases c1 : decide (b < 128)
    · cases c2 : (decide (194 ≤ b) && decide (b ≤ 223))
      · cases c3 : (decide (224 ≤ b) && decide (b ≤ 239))
        · exact hz
        · simp at c3
          simp [DecT.fault]
          grind
      · simp at c2
        simp [DecT.fault]
        grind
    · exact hz
  unfold hearD
  cases c1 : d.l == 0
  · cases c2 : !(decide (128 ≤ b) && decide (b ≤ 191))
    · cases c3 : d.l == 2
      · cases (isCh (64 * d.v + b - 128) && decide (d.o ≤ 64 * d.v + b - 128)) <;> exact hz
      · simp only [cond_false, cond_true]
        unfold DecT.fault at h ⊢
        simp at c2 c3
        grind
    · exact hfr
  · exact hfr
def manyD (q : DecT) : List Int → List Int × DecT
  | [] => ([], q)
  | x :: xs => ((hearD q x).1 ++ (manyD (hearD q x).2 xs).1, (manyD (hearD q x).2 xs).2)
theorem manyD_len : ∀ (b : List Int) (q : DecT), (manyD q b).1.length ≤ 2 * b.length
  | [], q => by simp [manyD]
  | x :: xs, q => by
    have h1 := hearD_len q x
    have h2 := manyD_len xs (hearD q x).2
    simp only [manyD, List.length_append, List.length_cons]
    omega
def mcode (d : DecT) (b : List Int) : Int := bif d.fault == 0 then (bif decide (b.length ≤ 2000) then 0 else 2) else d.fault
theorem mcode_ok {d : DecT} {b : List Int} (h : mcode d b = 0) : d.fault = 0 ∧ b.length ≤ 2000 := by
  unfold mcode at h
  grind
abbrev zR : Blk := ⟨[.int .i64 0, .slice none 0 0, .int .i64 0, .int .i64 0, .int .i64 0], 0, true, true⟩
theorem ok68 : codeOk CT Try.f68 (Try.f68.body.get rfl) = true := by kernel_rfl
--%D st (28, .int .i64 0)
theorem l68 (b : List Int) (hl : b.length ≤ 2000) (hw : ∀ x ∈ b, 0 ≤ x ∧ x < 256) : ∀ (n i : Nat) (out : List Int) (q : DecT), i + n = b.length → out.length ≤ 2 * i → q.fault = 0 → RunF CT Try.f68 (atLoop Try.f68 0) [(1, intsV .u8 b), (4, .pointer (some ⟨0, 0, none⟩)), (6, .pointer (some ⟨1, 0, none⟩)), (7, .int .i64 i)] [zR, mOD 0 (ownAt 2 out.length) q, outB .i64 out] (dresV (0, out ++ (manyD q (b.drop i)).1, (manyD q (b.drop i)).2)) := by
  intro n
  induction n with
  | zero =>
    intro i out q hi ho hq
    have hb := idx_ge (i := i) (n := b.length) (by omega)
    rw [show b.drop i = [] from List.drop_eq_nil_of_le (by omega), manyD, List.append_nil]
    refine RunF.of_sRun (K := K47) (K3 := Spec3.none) (O := []) (D := [(100024, .bool false)]) (H := []) CT_ok rfl K47_ok Spec3OK.none (c := Try.f68.body.get rfl) rfl ok68 400 rfl ?_ ?_
    · repeat' (first | with_reducible exact holds_none | with_reducible exact all_nil | with_reducible refine holds_some ?_ | with_reducible refine andP_intro ?_ ?_ | with_reducible refine condP_intro (fun h => ?_) (fun h => ?_) | with_reducible refine psP_intro ?_ | with_reducible refine all_append ?_ ?_ | with_reducible refine all_under (fun h => ?_) | with_reducible refine all_one ?_ | with_reducible refine all_cons ?_ ?_)
      all_goals first | exact (rfl : @Eq (List Value) _ _) | with_reducible exact le_goal (Nat.le_of_ble_eq_true rfl) | with_reducible exact fixd_goal rfl (Nat.le_of_ble_eq_true rfl) | (with_reducible refine hit_intro ?_ ?_ <;> (simp; done)) | exact (rfl : @Eq Value _ (Value.iface _ _)) | exact (rfl : @Eq Value _ (Value.agg _)) | (with_reducible refine veq_goal ?_; simp; done) | skip
      · exact hb
      · exact outB_goal rfl
    · exact congrArg (fun v => stR 0 v q) (outB_val _ _)
  | succ n ih =>
    intro i out q hi ho hq
    have hlt : i < b.length := by omega
    have hb := idx_lt hlt
    obtain ⟨hb0, hb1⟩ := hw b[i] (List.getElem_mem hlt)
    have h1 := ih (i + 1) (out ++ (hearD q b[i]).1) (hearD q b[i]).2 (by omega) (by have := hearD_len q b[i]; simp; omega) (hear_valid hq hb0 hb1)
    have hlen := hearD_len q b[i]
    rw [List.append_assoc] at h1
    rw [List.drop_eq_getElem_cons hlt, manyD]
    rcases hr : hearD q b[i] with ⟨cs, q'⟩
    rw [hr] at h1 hlen
    simp only at h1 hlen
    refine RunF.of_sRun (K := K47) (K3 := Spec3.none) (O := []) (D := [(100024, .bool true), (29, decV q), (33, .int .u8 b[i]), (34, .int .i64 b[i]), (35, toldV (cs, q')), (39, ownAt 2 out.length), (43, decV q')]) (H := [dresV (0, out ++ (cs ++ (manyD q' (b.drop (i + 1))).1), (manyD q' (b.drop (i + 1))).2)]) CT_ok rfl K47_ok Spec3OK.none (c := Try.f68.body.get rfl) rfl ok68 400 rfl ?_ ?_
    · repeat' (first | with_reducible exact holds_none | with_reducible exact all_nil | with_reducible refine holds_some ?_ | with_reducible refine andP_intro ?_ ?_ | with_reducible refine condP_intro (fun h => ?_) (fun h => ?_) | with_reducible refine psP_intro ?_ | with_reducible refine all_append ?_ ?_ | with_reducible refine all_under (fun h => ?_) | with_reducible refine all_one ?_ | with_reducible refine all_cons ?_ ?_)
      all_goals first | exact (rfl : @Eq (List Value) _ _) | with_reducible exact le_goal (Nat.le_of_ble_eq_true rfl) | with_reducible exact fixd_goal rfl (Nat.le_of_ble_eq_true rfl) | (with_reducible refine hit_intro ?_ ?_ <;> (simp; done)) | exact (rfl : @Eq Value _ (Value.iface _ _)) | exact (rfl : @Eq Value _ (Value.agg _)) | (with_reducible refine veq_goal ?_; simp; done) | skip
      all_goals first | exact in_range hlt | exact load_ints (by decide) (by simpa using hlt) | (rw [loaded (by decide)]; simp [hlt]; done) | skip
      all_goals first | (with_reducible refine app_goal ?_ ?_ ?_ <;> simp [outB] <;> omega) | skip
      all_goals first | exact hb | exact congrArg (Value.int .i64) (wrap64 (by omega) (by omega)) | (refine stable_of ?_; repeat' (first | exact trivial | refine And.intro rfl ?_)) | exact hit_of (q, b[i]) rfl (by simp) ⟨hq, hb0, hb1⟩ | (show toldV (hearD q b[i]) = _; rw [hr]; done) | (show _ = cs.length * 1; simp; done) | skip
      (refine RunF.normM rfl [0, 1, 4] (by decide) ?_ ?_ h1; focus (repeat' (first | with_reducible exact simT_nil | refine simT_cons rfl rfl ?_ ?_)) <;> (first | with_reducible rfl | with_reducible exact congrArg (Value.int .i64) (wrap_succ (by omega)) | exact (rfl : _ = Value.iface _ _) | exact (rfl : _ = Value.slice _ _ _) | exact (rfl : Value.int .i64 0 = _) | (simp; done)))
      refine simB_leaf rfl rfl rfl rfl rfl rfl (simB_cons rfl rfl rfl rfl rfl ?_ (simB_leaf rfl rfl rfl rfl ?_ (outB_inert _ _) simB_nil))
      · rw [List.length_append]; rfl
      · simp [outB, List.take_of_length_le]
    · rfl
/-- Ahead of the first character: no slice. -/
theorem l068 (b : List Int) (hl : b.length ≤ 2000) (hw : ∀ x ∈ b, 0 ≤ x ∧ x < 256) : ∀ (n i : Nat) (q : DecT), i + n = b.length → q.fault = 0 → RunF CT Try.f68 (atLoop Try.f68 0) [(1, intsV .u8 b), (4, .pointer (some ⟨0, 0, none⟩)), (6, .pointer (some ⟨1, 0, none⟩)), (7, .int .i64 i)] [zR, mOD 0 (.slice none 0 0) q] (dresV (0, (manyD q (b.drop i)).1, (manyD q (b.drop i)).2)) := by
  intro n
  induction n with
  | zero =>
    intro i q hi hq
    have hb := idx_ge (i := i) (n := b.length) (by omega)
    rw [show b.drop i = [] from List.drop_eq_nil_of_le (by omega), manyD]
    refine RunF.of_sRun (K := K47) (K3 := Spec3.none) (O := []) (D := [(100024, .bool false)]) (H := []) CT_ok rfl K47_ok Spec3OK.none (c := Try.f68.body.get rfl) rfl ok68 400 rfl ?_ ?_
    · repeat' (first | with_reducible exact holds_none | with_reducible exact all_nil | with_reducible refine holds_some ?_ | with_reducible refine andP_intro ?_ ?_ | with_reducible refine condP_intro (fun h => ?_) (fun h => ?_) | with_reducible refine psP_intro ?_ | with_reducible refine all_append ?_ ?_ | with_reducible refine all_under (fun h => ?_) | with_reducible refine all_one ?_ | with_reducible refine all_cons ?_ ?_)
      all_goals first | exact (rfl : @Eq (List Value) _ _) | with_reducible exact le_goal (Nat.le_of_ble_eq_true rfl) | with_reducible exact fixd_goal rfl (Nat.le_of_ble_eq_true rfl) | (with_reducible refine hit_intro ?_ ?_ <;> (simp; done)) | exact (rfl : @Eq Value _ (Value.iface _ _)) | exact (rfl : @Eq Value _ (Value.agg _)) | (with_reducible refine veq_goal ?_; simp; done) | skip
      · exact hb
    · rfl
  | succ n ih =>
    intro i q hi hq
    have hlt : i < b.length := by omega
    have hb := idx_lt hlt
    obtain ⟨hb0, hb1⟩ := hw b[i] (List.getElem_mem hlt)
    have hlen := hearD_len q b[i]
    have h1 := ih (i + 1) (hearD q b[i]).2 (by omega) (hear_valid hq hb0 hb1)
    have h2 := l68 b hl hw n (i + 1) (hearD q b[i]).1 (hearD q b[i]).2 (by omega) (by omega) (hear_valid hq hb0 hb1)
    rw [List.drop_eq_getElem_cons hlt, manyD]
    rcases hr : hearD q b[i] with ⟨cs, q'⟩
    rw [hr] at h1 h2 hlen
    simp only at h1 h2 hlen
    cases cs with
    | nil =>
      refine RunF.of_sRun (K := K47) (K3 := Spec3.none) (O := []) (D := [(100024, .bool true), (29, decV q), (33, .int .u8 b[i]), (34, .int .i64 b[i]), (35, toldV ([], q')), (39, .slice none 0 0), (43, decV q')]) (H := [dresV (0, (manyD q' (b.drop (i + 1))).1, (manyD q' (b.drop (i + 1))).2)]) CT_ok rfl K47_ok Spec3OK.none (c := Try.f68.body.get rfl) rfl ok68 400 rfl ?_ ?_
      · repeat' (first | with_reducible exact holds_none | with_reducible exact all_nil | with_reducible refine holds_some ?_ | with_reducible refine andP_intro ?_ ?_ | with_reducible refine condP_intro (fun h => ?_) (fun h => ?_) | with_reducible refine psP_intro ?_ | with_reducible refine all_append ?_ ?_ | with_reducible refine all_under (fun h => ?_) | with_reducible refine all_one ?_ | with_reducible refine all_cons ?_ ?_)
        all_goals first | exact (rfl : @Eq (List Value) _ _) | with_reducible exact le_goal (Nat.le_of_ble_eq_true rfl) | with_reducible exact fixd_goal rfl (Nat.le_of_ble_eq_true rfl) | (with_reducible refine hit_intro ?_ ?_ <;> (simp; done)) | exact (rfl : @Eq Value _ (Value.iface _ _)) | exact (rfl : @Eq Value _ (Value.agg _)) | (with_reducible refine veq_goal ?_; simp; done) | skip
        all_goals first | exact in_range hlt | exact load_ints (by decide) (by simpa using hlt) | (rw [loaded (by decide)]; simp [hlt]; done) | skip
        all_goals first | (with_reducible refine app_goal ?_ ?_ ?_ <;> simp [outB] <;> omega) | skip
        all_goals first | exact hb | exact congrArg (Value.int .i64) (wrap64 (by omega) (by omega)) | (refine stable_of ?_; repeat' (first | exact trivial | refine And.intro rfl ?_)) | exact hit_of (q, b[i]) rfl (by simp) ⟨hq, hb0, hb1⟩ | (show toldV (hearD q b[i]) = _; rw [hr]; done) | skip
        (refine RunF.normM rfl [0, 1] (by decide) ?_ ?_ h1; focus (repeat' (first | with_reducible exact simT_nil | refine simT_cons rfl rfl ?_ ?_)) <;> (first | with_reducible rfl | with_reducible exact congrArg (Value.int .i64) (wrap_succ (by omega)) | exact (rfl : _ = Value.iface _ _) | exact (rfl : _ = Value.slice _ _ _) | exact (rfl : Value.int .i64 0 = _) | (simp; done)))
        exact simB_leaf rfl rfl rfl rfl rfl rfl (simB_leaf rfl rfl rfl rfl rfl rfl simB_nil)
      · rfl
    | cons x xs =>
      refine RunF.of_sRun (K := K47) (K3 := Spec3.none) (O := []) (D := [(100024, .bool true), (29, decV q), (33, .int .u8 b[i]), (34, .int .i64 b[i]), (35, toldV (x :: xs, q')), (39, .slice none 0 0), (43, decV q')]) (H := [dresV (0, (x :: xs) ++ (manyD q' (b.drop (i + 1))).1, (manyD q' (b.drop (i + 1))).2)]) CT_ok rfl K47_ok Spec3OK.none (c := Try.f68.body.get rfl) rfl ok68 400 rfl ?_ ?_
      · repeat' (first | with_reducible exact holds_none | with_reducible exact all_nil | with_reducible refine holds_some ?_ | with_reducible refine andP_intro ?_ ?_ | with_reducible refine condP_intro (fun h => ?_) (fun h => ?_) | with_reducible refine psP_intro ?_ | with_reducible refine all_append ?_ ?_ | with_reducible refine all_under (fun h => ?_) | with_reducible refine all_one ?_ | with_reducible refine all_cons ?_ ?_)
        all_goals first | exact (rfl : @Eq (List Value) _ _) | with_reducible exact le_goal (Nat.le_of_ble_eq_true rfl) | with_reducible exact fixd_goal rfl (Nat.le_of_ble_eq_true rfl) | (with_reducible refine hit_intro ?_ ?_ <;> (simp; done)) | exact (rfl : @Eq Value _ (Value.iface _ _)) | exact (rfl : @Eq Value _ (Value.agg _)) | (with_reducible refine veq_goal ?_; simp; done) | skip
        all_goals first | exact in_range hlt | exact load_ints (by decide) (by simpa using hlt) | (rw [loaded (by decide)]; simp [hlt]; done) | skip
        all_goals first | (with_reducible refine app_goal ?_ ?_ ?_ <;> simp [outB] <;> omega) | skip
        all_goals first | exact hb | exact congrArg (Value.int .i64) (wrap64 (by omega) (by omega)) | (refine stable_of ?_; repeat' (first | exact trivial | refine And.intro rfl ?_)) | exact hit_of (q, b[i]) rfl (by simp) ⟨hq, hb0, hb1⟩ | (show toldV (hearD q b[i]) = _; rw [hr]; done) | (show _ = (x :: xs).length * 1; simp; done) | skip
        · exact ⟨Nat.succ_pos _, (by show (x :: xs).length * 8 ≤ _; omega), (by show (x :: xs).length ≤ _; omega)⟩
        (refine RunF.normM rfl [0, 1, 3] (by decide) ?_ ?_ h2; focus (repeat' (first | with_reducible exact simT_nil | refine simT_cons rfl rfl ?_ ?_)) <;> (first | with_reducible rfl | with_reducible exact congrArg (Value.int .i64) (wrap_succ (by omega)) | exact (rfl : _ = Value.iface _ _) | exact (rfl : _ = Value.slice _ _ _) | exact (rfl : Value.int .i64 0 = _) | (simp; done)))
        exact simB_leaf rfl rfl rfl rfl rfl rfl (simB_cons rfl rfl rfl rfl rfl rfl (simB_leaf rfl rfl rfl rfl rfl (outB_inert _ _) simB_nil))
      · rfl
def manyR (d : DecT) (b : List Int) : Int × List Int × DecT := bif mcode d b == 0 then (0, (manyD d b).1, (manyD d b).2) else (mcode d b, [], ⟨0, 0, 0⟩)
theorem c68 (d : DecT) (b : List Int) (hp : ∀ x ∈ b, 0 ≤ x ∧ x < 256) : Fz CT 68 [decV d, intsV .u8 b] (dresV (manyR d b)) := by
  unfold manyR
  cases hc : mcode d b == 0 with
  | true =>
    obtain ⟨hf, hl⟩ := mcode_ok (by simpa using hc : mcode d b = 0)
    have hf' : (d.fault != 0) = false := by rw [hf]; rfl
    have h1 := l068 b hl hp b.length 0 d (by omega) hf
    refine Fz.of_sRun (K := K47) (K3 := Spec3.none) (O := []) (D := [(10, .int .i64 d.fault), (19, decV d), (100012, .bool false), (100017, .bool false)]) (k := 400) (H := [dresV (0, (manyD d b).1, (manyD d b).2)]) CT_ok rfl K47_ok Spec3OK.none (c := Try.f68.body.get rfl) Try.func68 rfl (Nat.le_of_ble_eq_true rfl) (by decide) rfl ok68 rfl ?_ ?_
    · repeat' (first | with_reducible exact holds_none | with_reducible exact all_nil | with_reducible refine holds_some ?_ | with_reducible refine andP_intro ?_ ?_ | with_reducible refine condP_intro (fun h => ?_) (fun h => ?_) | with_reducible refine psP_intro ?_ | with_reducible refine all_append ?_ ?_ | with_reducible refine all_under (fun h => ?_) | with_reducible refine all_one ?_ | with_reducible refine all_cons ?_ ?_)
      all_goals first | exact (rfl : @Eq (List Value) _ _) | with_reducible exact le_goal (Nat.le_of_ble_eq_true rfl) | with_reducible exact fixd_goal rfl (Nat.le_of_ble_eq_true rfl) | (with_reducible refine hit_intro ?_ ?_ <;> (simp; done)) | exact (rfl : @Eq Value _ (Value.iface _ _)) | exact (rfl : @Eq Value _ (Value.agg _)) | (with_reducible refine veq_goal ?_; simp; done) | skip
      all_goals first | exact hf' | (simp; omega) | skip
      (refine RunF.normM rfl [1, 2] (by decide) ?_ ?_ h1; focus (repeat' (first | with_reducible exact simT_nil | refine simT_cons rfl rfl ?_ ?_)) <;> (first | with_reducible rfl | with_reducible exact congrArg (Value.int .i64) (wrap_succ (by omega)) | exact (rfl : _ = Value.iface _ _) | exact (rfl : _ = Value.slice _ _ _) | exact (rfl : Value.int .i64 0 = _) | (simp; done)))
      exact simB_leaf rfl rfl rfl rfl rfl rfl (simB_leaf rfl rfl rfl rfl rfl rfl simB_nil)
    · rfl
  | false =>
    have hc0 : mcode d b ≠ 0 := by simpa using hc
    cases hf : d.fault == 0 with
    | true =>
      have hf0 : d.fault = 0 := by simpa using hf
      have hf' : (d.fault != 0) = false := by rw [hf0]; rfl
      have hl : ¬ b.length ≤ 2000 := by
        intro h
        exact hc0 (by unfold mcode; simp [hf0, h])
      have hm : mcode d b = 2 := by unfold mcode; simp [hf0, hl]
      refine Fz.of_sRun (K := K47) (K3 := Spec3.none) (O := []) (D := [(10, .int .i64 d.fault), (100012, .bool false), (100017, .bool true)]) (k := 400) (H := []) CT_ok rfl K47_ok Spec3OK.none (c := Try.f68.body.get rfl) Try.func68 rfl (Nat.le_of_ble_eq_true rfl) (by decide) rfl ok68 rfl ?_ ?_
      · repeat' (first | with_reducible exact holds_none | with_reducible exact all_nil | with_reducible refine holds_some ?_ | with_reducible refine andP_intro ?_ ?_ | with_reducible refine condP_intro (fun h => ?_) (fun h => ?_) | with_reducible refine psP_intro ?_ | with_reducible refine all_append ?_ ?_ | with_reducible refine all_under (fun h => ?_) | with_reducible refine all_one ?_ | with_reducible refine all_cons ?_ ?_)
        all_goals first | exact (rfl : @Eq (List Value) _ _) | with_reducible exact le_goal (Nat.le_of_ble_eq_true rfl) | with_reducible exact fixd_goal rfl (Nat.le_of_ble_eq_true rfl) | (with_reducible refine hit_intro ?_ ?_ <;> (simp; done)) | exact (rfl : @Eq Value _ (Value.iface _ _)) | exact (rfl : @Eq Value _ (Value.agg _)) | (with_reducible refine veq_goal ?_; simp; done) | skip
        all_goals first | exact hf' | (simp; omega) | skip
      · rw [hm]; rfl
    | false =>
      have hf' : (d.fault != 0) = true := by simp only [bne, hf]; rfl
      have hm : mcode d b = d.fault := by unfold mcode; rw [hf]; rfl
      refine Fz.of_sRun (K := K47) (K3 := Spec3.none) (O := []) (D := [(10, .int .i64 d.fault), (100012, .bool true)]) (k := 400) (H := []) CT_ok rfl K47_ok Spec3OK.none (c := Try.f68.body.get rfl) Try.func68 rfl (Nat.le_of_ble_eq_true rfl) (by decide) rfl ok68 rfl ?_ ?_
      · repeat' (first | with_reducible exact holds_none | with_reducible exact all_nil | with_reducible refine holds_some ?_ | with_reducible refine andP_intro ?_ ?_ | with_reducible refine condP_intro (fun h => ?_) (fun h => ?_) | with_reducible refine psP_intro ?_ | with_reducible refine all_append ?_ ?_ | with_reducible refine all_under (fun h => ?_) | with_reducible refine all_one ?_ | with_reducible refine all_cons ?_ ?_)
        all_goals first | exact (rfl : @Eq (List Value) _ _) | with_reducible exact le_goal (Nat.le_of_ble_eq_true rfl) | with_reducible exact fixd_goal rfl (Nat.le_of_ble_eq_true rfl) | (with_reducible refine hit_intro ?_ ?_ <;> (simp; done)) | exact (rfl : @Eq Value _ (Value.iface _ _)) | exact (rfl : @Eq Value _ (Value.agg _)) | (with_reducible refine veq_goal ?_; simp; done) | skip
        all_goals first | exact hf' | (simp; omega) | skip
      · rw [hm]; rfl
def K68 : Spec := Spec.add K47 68 (fam (fun (p : DecT × (List Int)) => [decV p.1, intsV .u8 p.2]) (fun v => (decD (v.getD 0 .nilFunc), intsD (v.getD 1 .nilFunc))) (fun (p : DecT × (List Int)) => ∀ x ∈ p.2, 0 ≤ x ∧ x < 256) (fun (p : DecT × (List Int)) => dresV (manyR p.1 p.2)))
theorem K68_ok : SpecOK CT K68 := SpecOK.add K47_ok (fam_ok fun p hp => c68 p.1 p.2 hp)

theorem ok69 : codeOk CT Try.f69 (Try.f69.body.get rfl) = true := by kernel_rfl
--%D k0 {(8, 95)}{Spec3.none.add 95 (conE CT 95 (fun _ _ => .tuple #[.slice none 0 0, decV q']) (fun _ _ => [mDec q, zR, outB .i64 out]))}
--%D k1 {(8, 95)}{Spec3.none.add 95 (conE CT 95 (fun _ _ => .tuple #[ownAt 3 (x :: xs).length, decV q']) (fun _ _ => [mDec q, zR, outB .i64 out, outB .i64 (x :: xs)]))}
theorem l69 (b : List Int) (hl : b.length ≤ 2000) (hw : ∀ x ∈ b, 0 ≤ x ∧ x < 256) : ∀ (n i : Nat) (out : List Int) (q : DecT), i + n = b.length → out.length ≤ 2 * i → q.fault = 0 → Run CT 0 Try.f69 (atLoop Try.f69 0) [(2, .pointer (some ⟨0, 0, none⟩)), (4, .pointer (some ⟨1, 0, none⟩)), (6, ownAt 2 out.length), (24, intsV .u8 b), (25, .int .i64 b.length), (26, .int .i64 i)] [mDec q, zR, outB .i64 out] (stR 0 (ownAt 0 (out ++ (manyD q (b.drop i)).1).length) (manyD q (b.drop i)).2) [outB .i64 (out ++ (manyD q (b.drop i)).1)] := by
  intro n
  induction n with
  | zero =>
    intro i out q hi ho hq
    have hb := idx_ge (i := i) (n := b.length) (by omega)
    rw [show b.drop i = [] from List.drop_eq_nil_of_le (by omega), manyD, List.append_nil]
    refine RunK.of_sRunK (K := K68) (K3 := Spec3.none) (O := []) (D := [(100027, .bool false), (42, decV q)]) CT_ok rfl K68_ok Spec3OK.none (c := Try.f69.body.get rfl) rfl ok69 400 rfl ?_
    repeat' (first | with_reducible exact holds_none | with_reducible exact all_nil | with_reducible refine holds_some ?_ | with_reducible refine andP_intro ?_ ?_ | with_reducible refine condP_intro (fun h => ?_) (fun h => ?_) | with_reducible refine psP_intro ?_ | with_reducible refine all_append ?_ ?_ | with_reducible refine all_under (fun h => ?_) | with_reducible refine all_one ?_ | with_reducible refine all_cons ?_ ?_)
    all_goals first | exact (rfl : @Eq (List Value) _ _) | with_reducible exact le_goal (Nat.le_of_ble_eq_true rfl) | with_reducible exact fixd_goal rfl (Nat.le_of_ble_eq_true rfl) | (with_reducible refine hit_intro ?_ ?_ <;> (simp; done)) | exact (rfl : @Eq Value _ (Value.iface _ _)) | exact (rfl : @Eq Value _ (Value.agg _)) | (with_reducible refine veq_goal ?_; simp; done) | skip
    · exact hb
    · exact Leaf.post CT_ok rfl [2] (by decide) (simB_leaf rfl rfl rfl rfl rfl (outB_inert _ _) simB_nil) rfl rfl
  | succ n ih =>
    intro i out q hi ho hq
    have hlt : i < b.length := by omega
    have hb := idx_lt hlt
    obtain ⟨hb0, hb1⟩ := hw b[i] (List.getElem_mem hlt)
    have hlen := hearD_len q b[i]
    have h1 := ih (i + 1) (out ++ (hearD q b[i]).1) (hearD q b[i]).2 (by omega) (by simp; omega) (hear_valid hq hb0 hb1)
    have hh := o95 q b[i] hq hb0 hb1
    rw [List.append_assoc] at h1
    rw [List.drop_eq_getElem_cons hlt, manyD]
    rcases hr : hearD q b[i] with ⟨cs, q'⟩
    rw [hr] at h1 hh hlen
    simp only at h1 hh hlen
    cases cs with
    | nil =>
      have q95 : Con CT 95 [decV q, .int .u8 b[i]] [mDec q, zR, outB .i64 out] (.tuple #[.slice none 0 0, decV q']) [mDec q, zR, outB .i64 out] := by
        refine Con.lift (m := [mDec q, zR, outB .i64 out]) rfl hh trivial rfl rfl all_nil rfl
      refine RunK.of_sRunK (K := K68) (K3 := (Spec3.none.add 95 (conE CT 95 (fun _ _ => .tuple #[.slice none 0 0, decV q']) (fun _ _ => [mDec q, zR, outB .i64 out])))) (O := [(8, 95)]) (D := [(100027, .bool true), (29, .int .u8 b[i]), (31, decV q), (39, decV q')]) CT_ok rfl K68_ok (by repeat' (first | exact Spec3OK.none | refine Spec3OK.add ?_ conE_ok)) (c := Try.f69.body.get rfl) rfl ok69 400 rfl ?_
      repeat' (first | with_reducible exact holds_none | with_reducible exact all_nil | with_reducible refine holds_some ?_ | with_reducible refine andP_intro ?_ ?_ | with_reducible refine condP_intro (fun h => ?_) (fun h => ?_) | with_reducible refine psP_intro ?_ | with_reducible refine all_append ?_ ?_ | with_reducible refine all_under (fun h => ?_) | with_reducible refine all_one ?_ | with_reducible refine all_cons ?_ ?_)
      all_goals first | exact (rfl : @Eq (List Value) _ _) | with_reducible exact le_goal (Nat.le_of_ble_eq_true rfl) | with_reducible exact fixd_goal rfl (Nat.le_of_ble_eq_true rfl) | (with_reducible refine hit_intro ?_ ?_ <;> (simp; done)) | exact (rfl : @Eq Value _ (Value.iface _ _)) | exact (rfl : @Eq Value _ (Value.agg _)) | (with_reducible refine veq_goal ?_; simp; done) | skip
      all_goals first | exact in_range hlt | exact load_ints (by decide) (by simpa using hlt) | (rw [loaded (by decide)]; simp [hlt]; done) | skip
      all_goals first | (with_reducible refine app_goal ?_ ?_ ?_ <;> simp [outB] <;> omega) | skip
      all_goals first | exact hb | exact q95 | (refine stable_of ?_; repeat' (first | exact trivial | refine And.intro rfl ?_)) | skip
      (refine RunK.norm0 rfl [0, 1, 4] (by decide) ?_ ?_ h1; focus (repeat' (first | with_reducible exact simT_nil | refine simT_cons rfl rfl ?_ ?_)) <;> (first | with_reducible rfl | with_reducible exact congrArg (Value.int .i64) (wrap_succ (by omega)) | exact (rfl : _ = Value.iface _ _) | exact (rfl : _ = Value.agg _) | exact (rfl : _ = Value.slice _ _ _) | exact (rfl : _ = Value.pointer _) | exact (rfl : Value.int .i64 0 = _) | (simp; done)))
      refine simB_leaf rfl rfl rfl rfl rfl rfl (simB_leaf rfl rfl rfl rfl rfl rfl (simB_leaf rfl rfl rfl rfl ?_ (outB_inert _ _) simB_nil))
      simp [outB, List.take_of_length_le]
    | cons x xs =>
      have q95 : Con CT 95 [decV q, .int .u8 b[i]] [mDec q, zR, outB .i64 out] (.tuple #[ownAt 3 (x :: xs).length, decV q']) [mDec q, zR, outB .i64 out, outB .i64 (x :: xs)] := by
        refine Con.lift (m := [mDec q, zR, outB .i64 out]) rfl hh (outB_own _ _) rfl rfl all_nil rfl
      refine RunK.of_sRunK (K := K68) (K3 := (Spec3.none.add 95 (conE CT 95 (fun _ _ => .tuple #[ownAt 3 (x :: xs).length, decV q']) (fun _ _ => [mDec q, zR, outB .i64 out, outB .i64 (x :: xs)])))) (O := [(8, 95)]) (D := [(100027, .bool true), (29, .int .u8 b[i]), (31, decV q), (39, decV q')]) CT_ok rfl K68_ok (by repeat' (first | exact Spec3OK.none | refine Spec3OK.add ?_ conE_ok)) (c := Try.f69.body.get rfl) rfl ok69 400 rfl ?_
      repeat' (first | with_reducible exact holds_none | with_reducible exact all_nil | with_reducible refine holds_some ?_ | with_reducible refine andP_intro ?_ ?_ | with_reducible refine condP_intro (fun h => ?_) (fun h => ?_) | with_reducible refine psP_intro ?_ | with_reducible refine all_append ?_ ?_ | with_reducible refine all_under (fun h => ?_) | with_reducible refine all_one ?_ | with_reducible refine all_cons ?_ ?_)
      all_goals first | exact (rfl : @Eq (List Value) _ _) | with_reducible exact le_goal (Nat.le_of_ble_eq_true rfl) | with_reducible exact fixd_goal rfl (Nat.le_of_ble_eq_true rfl) | (with_reducible refine hit_intro ?_ ?_ <;> (simp; done)) | exact (rfl : @Eq Value _ (Value.iface _ _)) | exact (rfl : @Eq Value _ (Value.agg _)) | (with_reducible refine veq_goal ?_; simp; done) | skip
      all_goals first | exact in_range hlt | exact load_ints (by decide) (by simpa using hlt) | (rw [loaded (by decide)]; simp [hlt]; done) | skip
      all_goals first | (with_reducible refine app_goal ?_ ?_ ?_ <;> simp [outB] <;> omega) | skip
      all_goals first | exact hb | exact q95 | (refine stable_of ?_; repeat' (first | exact trivial | refine And.intro rfl ?_)) | skip
      · show 0 + (x :: xs).length * 1 ≤ (List.map (Value.int .i64) (x :: xs)).length
        simp
      · exact ⟨(by show 0 + out.length * 1 ≤ (List.map (Value.int .i64) out).length; simp), (by show (out.length + (x :: xs).length) * 8 ≤ _; omega), (by omega)⟩
      · (refine RunK.norm0 rfl [0, 1, 5] (by decide) ?_ ?_ h1; focus (repeat' (first | with_reducible exact simT_nil | refine simT_cons rfl rfl ?_ ?_)) <;> (first | with_reducible rfl | with_reducible exact congrArg (Value.int .i64) (wrap_succ (by omega)) | exact (rfl : _ = Value.iface _ _) | exact (rfl : _ = Value.agg _) | exact (rfl : _ = Value.slice _ _ _) | exact (rfl : _ = Value.pointer _) | exact (rfl : Value.int .i64 0 = _) | (simp; done)))
        refine simB_leaf rfl rfl rfl rfl rfl rfl (simB_leaf rfl rfl rfl rfl rfl rfl (simB_leaf rfl rfl rfl rfl ?_ (outB_inert _ _) simB_nil))
        simp [outB, List.take_of_length_le]
theorem o69 (d : DecT) (b : List Int) (hw : ∀ x ∈ b, 0 ≤ x ∧ x < 256) (hc0 : mcode d b = 0) : OwnFz CT 69 [decV d, intsV .u8 b] (stR 0 (ownAt 0 (manyD d b).1.length) (manyD d b).2) [outB .i64 (manyD d b).1] := by
  obtain ⟨hf, hl⟩ := mcode_ok hc0
  have h1 := l69 b hl hw b.length 0 [] d (by omega) (by simp) hf
  have hc' : (mcode d b != 0) = false := by rw [hc0]; rfl
  refine Own.of_sRunK (K := K68) (K3 := Spec3.none) (O := []) (D := [(11, decV d), (12, .int .i64 d.fault), (16, .int .i64 (bif decide (b.length ≤ 2000) then 0 else 2)), (18, .int .i64 (mcode d b)), (100020, .bool false)]) (j := 400) CT_ok rfl K68_ok Spec3OK.none (c := Try.f69.body.get rfl) Try.func69 rfl (Nat.le_of_ble_eq_true rfl) (by decide) rfl ok69 rfl ?_
  repeat' (first | with_reducible exact holds_none | with_reducible exact all_nil | with_reducible refine holds_some ?_ | with_reducible refine andP_intro ?_ ?_ | with_reducible refine condP_intro (fun h => ?_) (fun h => ?_) | with_reducible refine psP_intro ?_ | with_reducible refine all_append ?_ ?_ | with_reducible refine all_under (fun h => ?_) | with_reducible refine all_one ?_ | with_reducible refine all_cons ?_ ?_)
  all_goals first | exact (rfl : @Eq (List Value) _ _) | with_reducible exact le_goal (Nat.le_of_ble_eq_true rfl) | with_reducible exact fixd_goal rfl (Nat.le_of_ble_eq_true rfl) | (with_reducible refine hit_intro ?_ ?_ <;> (simp; done)) | exact (rfl : @Eq Value _ (Value.iface _ _)) | exact (rfl : @Eq Value _ (Value.agg _)) | (with_reducible refine veq_goal ?_; simp; done) | skip
  all_goals first | exact hc' | (simp [firstOf, mcode]; grind) | (simp; done) | skip
  · (refine RunK.norm0 rfl [0, 1, 3] (by decide) ?_ ?_ h1; focus (repeat' (first | with_reducible exact simT_nil | refine simT_cons rfl rfl ?_ ?_)) <;> (first | with_reducible rfl | with_reducible exact congrArg (Value.int .i64) (wrap_succ (by omega)) | exact (rfl : _ = Value.iface _ _) | exact (rfl : _ = Value.agg _) | exact (rfl : _ = Value.slice _ _ _) | exact (rfl : _ = Value.pointer _) | exact (rfl : Value.int .i64 0 = _) | (simp; done)))
    exact simB_leaf rfl rfl rfl rfl rfl rfl (simB_leaf rfl rfl rfl rfl rfl rfl (simB_leaf rfl rfl rfl rfl rfl (outB_inert _ _) simB_nil))
theorem n69 (d : DecT) (b : List Int) (hc0 : mcode d b ≠ 0) : OwnFz CT 69 [decV d, intsV .u8 b] (stR (mcode d b) (.slice none 0 0) ⟨0, 0, 0⟩) [] := by
  have hc' : (mcode d b != 0) = true := by simpa using hc0
  refine Own.of_sRunK (K := K68) (K3 := Spec3.none) (O := []) (D := [(11, decV d), (12, .int .i64 d.fault), (16, .int .i64 (bif decide (b.length ≤ 2000) then 0 else 2)), (18, .int .i64 (mcode d b)), (100020, .bool true)]) (j := 400) CT_ok rfl K68_ok Spec3OK.none (c := Try.f69.body.get rfl) Try.func69 rfl (Nat.le_of_ble_eq_true rfl) (by decide) rfl ok69 rfl ?_
  repeat' (first | with_reducible exact holds_none | with_reducible exact all_nil | with_reducible refine holds_some ?_ | with_reducible refine andP_intro ?_ ?_ | with_reducible refine condP_intro (fun h => ?_) (fun h => ?_) | with_reducible refine psP_intro ?_ | with_reducible refine all_append ?_ ?_ | with_reducible refine all_under (fun h => ?_) | with_reducible refine all_one ?_ | with_reducible refine all_cons ?_ ?_)
  all_goals first | exact (rfl : @Eq (List Value) _ _) | with_reducible exact le_goal (Nat.le_of_ble_eq_true rfl) | with_reducible exact fixd_goal rfl (Nat.le_of_ble_eq_true rfl) | (with_reducible refine hit_intro ?_ ?_ <;> (simp; done)) | exact (rfl : @Eq Value _ (Value.iface _ _)) | exact (rfl : @Eq Value _ (Value.agg _)) | (with_reducible refine veq_goal ?_; simp; done) | skip
  all_goals first | exact hc' | (simp [firstOf, mcode]; grind) | (exact Leaf.post CT_ok rfl [] (by decide) simB_nil rfl rfl) | (simp; done) | trace_state
theorem c69 (d : DecT) (b : List Int) (hp : ∀ x ∈ b, 0 ≤ x ∧ x < 256) : Fz CT 69 [decV d, intsV .u8 b] (dresV (manyR d b)) := by
  unfold manyR
  cases hc : mcode d b == 0 with
  | true =>
    have h := o69 d b hp (by simpa using hc)
    have h1 : Fz CT 69 [decV d, intsV .u8 b] (stR 0 (Value.iface (manyD d b).1.length (.agg (List.take ((manyD d b).1.length * 1) (List.drop 0 (outB .i64 (manyD d b).1).cells)).toArray)) (manyD d b).2) := by
      refine Fz.of_own h rfl ?_
      repeat' (first | with_reducible exact holds_none | with_reducible exact all_nil | with_reducible refine holds_some ?_ | with_reducible refine andP_intro ?_ ?_ | with_reducible refine condP_intro (fun h => ?_) (fun h => ?_) | with_reducible refine psP_intro ?_ | with_reducible refine all_append ?_ ?_ | with_reducible refine all_under (fun h => ?_) | with_reducible refine all_one ?_ | with_reducible refine all_cons ?_ ?_)
      exact outB_goal rfl
    rw [outB_val] at h1
    exact h1
  | false => exact Fz.of_own (n69 d b (by simpa using hc)) rfl all_nil
def K69 : Spec := Spec.add K68 69 (fam (fun (p : DecT × (List Int)) => [decV p.1, intsV .u8 p.2]) (fun v => (decD (v.getD 0 .nilFunc), intsD (v.getD 1 .nilFunc))) (fun (p : DecT × (List Int)) => ∀ x ∈ p.2, 0 ≤ x ∧ x < 256) (fun (p : DecT × (List Int)) => dresV (manyR p.1 p.2)))
theorem K69_ok : SpecOK CT K69 := SpecOK.add K68_ok (fam_ok fun p hp => c69 p.1 p.2 hp)
theorem ok14 : codeOk CT Try.f14 (Try.f14.body.get rfl) = true := by kernel_rfl
theorem law14 (w : DecT) (d : List Int) (hw : ∀ x ∈ d, 0 ≤ x ∧ x < 256)  : Fz CT 14 [decV w, intsV .u8 d] (.bool true) := by
  cases hb : decide ((d.length : Int) > 1048576) with
  | true =>
    refine Fz.of_sRun (K := K69) (K3 := Spec3.none) (O := []) (D := [(100014, .bool true)]) (k := 400) (H := []) CT_ok rfl K69_ok Spec3OK.none (c := Try.f14.body.get rfl) Try.func14 rfl (Nat.le_of_ble_eq_true rfl) (by decide) rfl ok14 rfl ?_ ?_
    · repeat' (first | with_reducible exact holds_none | with_reducible exact all_nil | with_reducible refine holds_some ?_ | with_reducible refine andP_intro ?_ ?_ | with_reducible refine condP_intro (fun h => ?_) (fun h => ?_) | with_reducible refine psP_intro ?_ | with_reducible refine all_append ?_ ?_ | with_reducible refine all_under (fun h => ?_) | with_reducible refine all_one ?_ | with_reducible refine all_cons ?_ ?_)
      all_goals first | exact (rfl : @Eq (List Value) _ _) | with_reducible exact le_goal (Nat.le_of_ble_eq_true rfl) | with_reducible exact fixd_goal rfl (Nat.le_of_ble_eq_true rfl) | (with_reducible refine hit_intro ?_ ?_ <;> (simp; done)) | exact (rfl : @Eq Value _ (Value.iface _ _)) | exact (rfl : @Eq Value _ (Value.agg _)) | (with_reducible refine veq_goal ?_; simp; done) | skip
      exact hb
    · rfl
  | false =>
    have hd : d.length ≤ 1048576 := by simp at hb; omega
    cases hc : mcode w d == 0 with
    | true =>
      have hc0 : mcode w d = 0 := by simpa using hc
      obtain ⟨hf, hd1⟩ := mcode_ok hc0
      have hlen := manyD_len d w
      have hl32 : (manyD w d).1.length ≤ 1048576 := by omega
      have q16 : Con CT 16 [intsV .u8 d] [mDec w, mDR (0, (manyD w d).1, (manyD w d).2)] (ownAt 2 d.length) [mDec w, mDR (0, (manyD w d).1, (manyD w d).2), outB .u8 d] := by
        refine Con.lift (m := [mDec w, mDR (0, (manyD w d).1, (manyD w d).2)]) rfl (o16 d hd) (outB_own _ _) rfl rfl ?_ rfl
        repeat' (first | with_reducible exact holds_none | with_reducible exact all_nil | with_reducible refine holds_some ?_ | with_reducible refine andP_intro ?_ ?_ | with_reducible refine condP_intro (fun h => ?_) (fun h => ?_) | with_reducible refine psP_intro ?_ | with_reducible refine all_append ?_ ?_ | with_reducible refine all_under (fun h => ?_) | with_reducible refine all_one ?_ | with_reducible refine all_cons ?_ ?_)
        all_goals first | exact (rfl : @Eq (List Value) _ _) | with_reducible exact le_goal (Nat.le_of_ble_eq_true rfl) | with_reducible exact fixd_goal rfl (Nat.le_of_ble_eq_true rfl) | (with_reducible refine hit_intro ?_ ?_ <;> (simp; done)) | exact (rfl : @Eq Value _ (Value.iface _ _)) | exact (rfl : @Eq Value _ (Value.agg _)) | (with_reducible refine veq_goal ?_; simp; done) | skip
      have q42 : Con CT 69 [decV w, ownAt 2 d.length] [mDec w, mDR (0, (manyD w d).1, (manyD w d).2), outB .u8 d] (stR 0 (ownAt 3 (manyD w d).1.length) (manyD w d).2) [mDec w, mDR (0, (manyD w d).1, (manyD w d).2), outB .u8 d, outB .i64 (manyD w d).1] := by
        refine Con.lift rfl (o69 w d hw hc0) (outB_own _ _) rfl rfl ?_ (by simp [outB])
        repeat' (first | with_reducible exact holds_none | with_reducible exact all_nil | with_reducible refine holds_some ?_ | with_reducible refine andP_intro ?_ ?_ | with_reducible refine condP_intro (fun h => ?_) (fun h => ?_) | with_reducible refine psP_intro ?_ | with_reducible refine all_append ?_ ?_ | with_reducible refine all_under (fun h => ?_) | with_reducible refine all_one ?_ | with_reducible refine all_cons ?_ ?_)
        all_goals first | exact (rfl : @Eq (List Value) _ _) | with_reducible exact le_goal (Nat.le_of_ble_eq_true rfl) | with_reducible exact fixd_goal rfl (Nat.le_of_ble_eq_true rfl) | (with_reducible refine hit_intro ?_ ?_ <;> (simp; done)) | exact (rfl : @Eq Value _ (Value.iface _ _)) | exact (rfl : @Eq Value _ (Value.agg _)) | (with_reducible refine veq_goal ?_; simp; done) | skip
        exact outB_goal rfl
      have q31 : Con CT 31 [ownAt 2 d.length, .int .i64 1] [mDec w, mDR (0, (manyD w d).1, (manyD w d).2), outB .u8 d, outB .i64 (manyD w d).1, mOD 0 (ownAt 3 (manyD w d).1.length) (manyD w d).2] (.int .i64 (1 + d.length)) [mDec w, mDR (0, (manyD w d).1, (manyD w d).2), outB .u8 (markL d.length 1), outB .i64 (manyD w d).1, mOD 0 (ownAt 3 (manyD w d).1.length) (manyD w d).2] := m31' d 1 _ 2 (by omega) (by omega) rfl
      have q32 : Con CT 47 [stR 0 (ownAt 3 (manyD w d).1.length) (manyD w d).2, .int .i64 1] [mDec w, mDR (0, (manyD w d).1, (manyD w d).2), outB .u8 (markL d.length 1), outB .i64 (manyD w d).1, mOD 0 (ownAt 3 (manyD w d).1.length) (manyD w d).2] (.int .i64 (1 + (manyD w d).1.length)) [mDec w, mDR (0, (manyD w d).1, (manyD w d).2), outB .u8 (markL d.length 1), outB .i64 (markI (manyD w d).1.length 1), mOD 0 (ownAt 3 (manyD w d).1.length) (manyD w d).2] := m47' 0 (manyD w d).1 (manyD w d).2 1 _ 3 (by omega) (by omega) rfl
      refine Fz.of_sRun (K := K69) (K3 := ((((Spec3.none.add 16 (conE CT 16 (fun _ _ => ownAt 2 d.length) (fun _ _ => [mDec w, mDR (0, (manyD w d).1, (manyD w d).2), outB .u8 d]))).add 69 (conE CT 69 (fun _ _ => stR 0 (ownAt 3 (manyD w d).1.length) (manyD w d).2) (fun _ _ => [mDec w, mDR (0, (manyD w d).1, (manyD w d).2), outB .u8 d, outB .i64 (manyD w d).1]))).add 31 (conE CT 31 (fun _ _ => .int .i64 (1 + d.length)) (fun _ _ => [mDec w, mDR (0, (manyD w d).1, (manyD w d).2), outB .u8 (markL d.length 1), outB .i64 (manyD w d).1, mOD 0 (ownAt 3 (manyD w d).1.length) (manyD w d).2]))).add 47 (conE CT 47 (fun _ _ => .int .i64 (1 + (manyD w d).1.length)) (fun _ _ => [mDec w, mDR (0, (manyD w d).1, (manyD w d).2), outB .u8 (markL d.length 1), outB .i64 (markI (manyD w d).1.length 1), mOD 0 (ownAt 3 (manyD w d).1.length) (manyD w d).2])))) (O := [(4, 16), (5, 69), (11, 31), (15, 47)]) (D := [(100014, .bool false), (100029, .bool false), (100034, .bool false), (100045, .bool false), (100053, .bool false), (100056, .bool false), (100065, .bool false), (100070, .bool false), (100073, .bool false), (15, decV w), (16, decV w), (18, intsV .u8 d), (19, dresV (0, (manyD w d).1, (manyD w d).2)), (21, ownAt 2 d.length), (22, decV w), (23, decV w), (24, ownAt 2 d.length), (25, stR 0 (ownAt 3 (manyD w d).1.length) (manyD w d).2), (26, stR 0 (ownAt 3 (manyD w d).1.length) (manyD w d).2), (27, dresV (0, (manyD w d).1, (manyD w d).2)), (30, ownAt 2 d.length), (35, ownAt 2 d.length), (37, .int .i64 (1 + d.length)), (41, stR 0 (ownAt 3 (manyD w d).1.length) (manyD w d).2), (42, dresV (0, (manyD w d).1, (manyD w d).2)), (46, stR 0 (ownAt 3 (manyD w d).1.length) (manyD w d).2), (48, .int .i64 (1 + (manyD w d).1.length)), (49, stR 0 (ownAt 3 (manyD w d).1.length) (manyD w d).2), (62, dresV (0, (manyD w d).1, (manyD w d).2)), (63, dresV (0, (manyD w d).1, (manyD w d).2)), (66, stR 0 (ownAt 3 (manyD w d).1.length) (manyD w d).2), (28, .bool true), (32, intsV .u8 d), (33, .bool true), (43, .bool true), (51, .int .i64 (1 + (manyD w d).1.length)), (57, decV w), (58, decV w), (60, intsV .u8 d), (61, dresV (0, (manyD w d).1, (manyD w d).2)), (64, .bool true), (68, .int .i64 (1 + (manyD w d).1.length))]) (k := 400) (H := []) CT_ok rfl K69_ok (by repeat' (first | exact Spec3OK.none | refine Spec3OK.add ?_ conE_ok)) (c := Try.f14.body.get rfl) Try.func14 rfl (Nat.le_of_ble_eq_true rfl) (by decide) rfl ok14 rfl ?_ ?_
      · repeat' (first | with_reducible exact holds_none | with_reducible exact all_nil | with_reducible refine holds_some ?_ | with_reducible refine andP_intro ?_ ?_ | with_reducible refine condP_intro (fun h => ?_) (fun h => ?_) | with_reducible refine psP_intro ?_ | with_reducible refine all_append ?_ ?_ | with_reducible refine all_under (fun h => ?_) | with_reducible refine all_one ?_ | with_reducible refine all_cons ?_ ?_)
        all_goals first | exact (rfl : @Eq (List Value) _ _) | with_reducible exact le_goal (Nat.le_of_ble_eq_true rfl) | with_reducible exact fixd_goal rfl (Nat.le_of_ble_eq_true rfl) | (with_reducible refine hit_intro ?_ ?_ <;> (simp; done)) | exact (rfl : @Eq Value _ (Value.iface _ _)) | exact (rfl : @Eq Value _ (Value.agg _)) | (with_reducible refine veq_goal ?_; simp; done) | skip
        all_goals first | rfl | exact hb | exact hit_of d (by simp) (by simp) hd | exact hit_of (d, d) (by simp [outB]) (by simp) ⟨hd, hd⟩ | exact hit_of ((0, (manyD w d).1, (manyD w d).2), (0, (manyD w d).1, (manyD w d).2)) (by simp [outB]) (by simp) ⟨hl32, rfl⟩ | exact hit_of (w, d) rfl (by simp) hw | exact q16 | exact q42 | exact q31 | exact q32 | exact outB_goal (by simp) | exact hit_of ((0, markI (manyD w d).1.length 1, (manyD w d).2), 1) (by simp [outB]) (by simp) ⟨by omega, by simp; omega⟩ | (simp [manyR, outB, hc0, heldI_mark]; done) | (simp [manyR, outB, hc0, heldI_mark]; omega) | trace_state
      · rfl
    | false =>
      have hc0 : mcode w d ≠ 0 := by simpa using hc
      have q16 : Con CT 16 [intsV .u8 d] [mDec w, mDR (mcode w d, [], ⟨0, 0, 0⟩)] (ownAt 2 d.length) [mDec w, mDR (mcode w d, [], ⟨0, 0, 0⟩), outB .u8 d] := by
        refine Con.lift (m := [mDec w, mDR (mcode w d, [], ⟨0, 0, 0⟩)]) rfl (o16 d hd) (outB_own _ _) rfl rfl ?_ rfl
        repeat' (first | with_reducible exact holds_none | with_reducible exact all_nil | with_reducible refine holds_some ?_ | with_reducible refine andP_intro ?_ ?_ | with_reducible refine condP_intro (fun h => ?_) (fun h => ?_) | with_reducible refine psP_intro ?_ | with_reducible refine all_append ?_ ?_ | with_reducible refine all_under (fun h => ?_) | with_reducible refine all_one ?_ | with_reducible refine all_cons ?_ ?_)
        all_goals first | exact (rfl : @Eq (List Value) _ _) | with_reducible exact le_goal (Nat.le_of_ble_eq_true rfl) | with_reducible exact fixd_goal rfl (Nat.le_of_ble_eq_true rfl) | (with_reducible refine hit_intro ?_ ?_ <;> (simp; done)) | exact (rfl : @Eq Value _ (Value.iface _ _)) | exact (rfl : @Eq Value _ (Value.agg _)) | (with_reducible refine veq_goal ?_; simp; done) | skip
      have q42 : Con CT 69 [decV w, ownAt 2 d.length] [mDec w, mDR (mcode w d, [], ⟨0, 0, 0⟩), outB .u8 d] (stR (mcode w d) (.slice none 0 0) ⟨0, 0, 0⟩) [mDec w, mDR (mcode w d, [], ⟨0, 0, 0⟩), outB .u8 d] := by
        refine Con.lift (m := [mDec w, mDR (mcode w d, [], ⟨0, 0, 0⟩), outB .u8 d]) rfl (n69 w d hc0) trivial rfl rfl ?_ (by simp [outB])
        repeat' (first | with_reducible exact holds_none | with_reducible exact all_nil | with_reducible refine holds_some ?_ | with_reducible refine andP_intro ?_ ?_ | with_reducible refine condP_intro (fun h => ?_) (fun h => ?_) | with_reducible refine psP_intro ?_ | with_reducible refine all_append ?_ ?_ | with_reducible refine all_under (fun h => ?_) | with_reducible refine all_one ?_ | with_reducible refine all_cons ?_ ?_)
        all_goals first | exact (rfl : @Eq (List Value) _ _) | with_reducible exact le_goal (Nat.le_of_ble_eq_true rfl) | with_reducible exact fixd_goal rfl (Nat.le_of_ble_eq_true rfl) | (with_reducible refine hit_intro ?_ ?_ <;> (simp; done)) | exact (rfl : @Eq Value _ (Value.iface _ _)) | exact (rfl : @Eq Value _ (Value.agg _)) | (with_reducible refine veq_goal ?_; simp; done) | skip
        exact outB_goal rfl
      have q31 : Con CT 31 [ownAt 2 d.length, .int .i64 1] [mDec w, mDR (mcode w d, [], ⟨0, 0, 0⟩), outB .u8 d, mOD (mcode w d) (.slice none 0 0) ⟨0, 0, 0⟩] (.int .i64 (1 + d.length)) [mDec w, mDR (mcode w d, [], ⟨0, 0, 0⟩), outB .u8 (markL d.length 1), mOD (mcode w d) (.slice none 0 0) ⟨0, 0, 0⟩] := m31' d 1 _ 2 (by omega) (by omega) rfl
      refine Fz.of_sRun (K := K69) (K3 := (((Spec3.none.add 16 (conE CT 16 (fun _ _ => ownAt 2 d.length) (fun _ _ => [mDec w, mDR (mcode w d, [], ⟨0, 0, 0⟩), outB .u8 d]))).add 69 (conE CT 69 (fun _ _ => stR (mcode w d) (.slice none 0 0) ⟨0, 0, 0⟩) (fun _ _ => [mDec w, mDR (mcode w d, [], ⟨0, 0, 0⟩), outB .u8 d]))).add 31 (conE CT 31 (fun _ _ => .int .i64 (1 + d.length)) (fun _ _ => [mDec w, mDR (mcode w d, [], ⟨0, 0, 0⟩), outB .u8 (markL d.length 1), mOD (mcode w d) (.slice none 0 0) ⟨0, 0, 0⟩])))) (O := [(4, 16), (5, 69), (11, 31)]) (D := [(100014, .bool false), (100029, .bool false), (100034, .bool false), (100045, .bool false), (100053, .bool false), (100056, .bool false), (100065, .bool false), (100070, .bool false), (100073, .bool false), (15, decV w), (16, decV w), (18, intsV .u8 d), (19, dresV (mcode w d, [], ⟨0, 0, 0⟩)), (21, ownAt 2 d.length), (22, decV w), (23, decV w), (24, ownAt 2 d.length), (25, stR (mcode w d) (.slice none 0 0) ⟨0, 0, 0⟩), (26, stR (mcode w d) (.slice none 0 0) ⟨0, 0, 0⟩), (27, dresV (mcode w d, [], ⟨0, 0, 0⟩)), (30, ownAt 2 d.length), (35, ownAt 2 d.length), (37, .int .i64 (1 + d.length)), (41, stR (mcode w d) (.slice none 0 0) ⟨0, 0, 0⟩), (42, dresV (mcode w d, [], ⟨0, 0, 0⟩)), (46, stR (mcode w d) (.slice none 0 0) ⟨0, 0, 0⟩), (48, .int .i64 1), (49, stR (mcode w d) (.slice none 0 0) ⟨0, 0, 0⟩), (62, dresV (mcode w d, [], ⟨0, 0, 0⟩)), (63, dresV (mcode w d, [], ⟨0, 0, 0⟩)), (66, stR (mcode w d) (.slice none 0 0) ⟨0, 0, 0⟩), (28, .bool true), (32, intsV .u8 d), (33, .bool true), (43, .bool true), (51, .int .i64 1), (57, decV w), (58, decV w), (60, intsV .u8 d), (61, dresV (mcode w d, [], ⟨0, 0, 0⟩)), (64, .bool true), (68, .int .i64 1)]) (k := 400) (H := []) CT_ok rfl K69_ok (by repeat' (first | exact Spec3OK.none | refine Spec3OK.add ?_ conE_ok)) (c := Try.f14.body.get rfl) Try.func14 rfl (Nat.le_of_ble_eq_true rfl) (by decide) rfl ok14 rfl ?_ ?_
      · repeat' (first | with_reducible exact holds_none | with_reducible exact all_nil | with_reducible refine holds_some ?_ | with_reducible refine andP_intro ?_ ?_ | with_reducible refine condP_intro (fun h => ?_) (fun h => ?_) | with_reducible refine psP_intro ?_ | with_reducible refine all_append ?_ ?_ | with_reducible refine all_under (fun h => ?_) | with_reducible refine all_one ?_ | with_reducible refine all_cons ?_ ?_)
        all_goals first | exact (rfl : @Eq (List Value) _ _) | with_reducible exact le_goal (Nat.le_of_ble_eq_true rfl) | with_reducible exact fixd_goal rfl (Nat.le_of_ble_eq_true rfl) | (with_reducible refine hit_intro ?_ ?_ <;> (simp; done)) | exact (rfl : @Eq Value _ (Value.iface _ _)) | exact (rfl : @Eq Value _ (Value.agg _)) | (with_reducible refine veq_goal ?_; simp; done) | skip
        all_goals first | rfl | exact hb | exact hit_of d (by simp) (by simp) hd | exact hit_of (d, d) (by simp [outB]) (by simp) ⟨hd, hd⟩ | exact hit_of ((mcode w d, [], ⟨0, 0, 0⟩), (mcode w d, [], ⟨0, 0, 0⟩)) (by simp [outB]) (by simp) ⟨by simp, rfl⟩ | exact hit_of (w, d) rfl (by simp) hw | exact hit_of (w, d) rfl (by simp) hw | exact q16 | exact q42 | exact q31 | exact outB_goal (by simp) | exact hit_of ((mcode w d, [], ⟨0, 0, 0⟩), 1) (by simp) (by simp) rfl | exact hit_of ((mcode w d, [], ⟨0, 0, 0⟩), 1) (by simp) (by simp) (by simp) | (simp [manyR, outB, hc0, hc, heldI_mark, heldI]; done) | (simp [manyR, outB, hc0, heldI_mark]; omega) | trace_state
      · rfl
theorem all_FnExactDecodeMany : ∀ xs, TypedAll CT [62, 22] xs → Fz CT 14 xs (.bool true)
  | [a, b], h => by
    obtain ⟨cs, rfl, hw⟩ : ∃ cs : Array Value, a = .agg cs ∧ Typed CT 62 cs.toList := h.1
    obtain ⟨w, hw⟩ := typed_dec hw
    obtain ⟨d, rfl, hd, hb⟩ := typed_ints h.2.1 rfl rfl rfl
    obtain ⟨cs⟩ := cs
    simp only at hw
    subst hw
    exact law14 w d fun x hx => wf_u8 (hb x hx)
  | [], h => h.elim
  | [_], h => h.2.elim
  | _ :: _ :: _ :: _, h => h.2.2.elim
end Go.Ab
