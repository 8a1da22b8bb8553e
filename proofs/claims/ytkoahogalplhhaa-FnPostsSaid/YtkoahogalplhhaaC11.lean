/- Contracts of PlainBytes. -/
import Derived.Test.YtkoahogalplhhaaC10
namespace Go.Ab
open Go.Proofs
set_option maxRecDepth 100000
set_option linter.unusedVariables false
set_option linter.unusedSimpArgs false
def plainL (b : Bool) : List Int → List Int
  | [] => []
  | x :: xs => bif b && (x == 13 && xs.head? == some 10) then plainL b xs else x :: plainL b xs
def crAt (b : Bool) (d : List Int) (i : Nat) : Bool := ((b && d.getD i 0 == 13) && decide (((i + 1 : Nat) : Int) < (d.length : Int))) && d.getD (i + 1) 0 == 10
theorem plain_at {b : Bool} {d : List Int} {i : Nat} (h : i < d.length) : plainL b (d.drop i) = bif crAt b d i then plainL b (d.drop (i + 1)) else d[i] :: plainL b (d.drop (i + 1)) := by
  rw [List.drop_eq_getElem_cons h]
  simp only [plainL, crAt]
  congr 1
  rw [List.head?_drop]
  by_cases h1 : i + 1 < d.length
  · have h2 : decide (((i + 1 : Nat) : Int) < (d.length : Int)) = true := by simp; omega
    rw [h2]
    simp [h, h1, Bool.and_assoc]
  · have h2 : decide (((i + 1 : Nat) : Int) < (d.length : Int)) = false := by simp; omega
    rw [h2]
    simp [h1]
theorem plainL_len (b : Bool) : ∀ d, (plainL b d).length ≤ d.length
  | [] => Nat.le_refl _
  | x :: d => by
    have := plainL_len b d
    unfold plainL
    cases (b && (x == 13 && d.head? == some 10)) <;> simp <;> omega
theorem lt_of_guard {a : Bool} {i n : Nat} (h : ((a && decide (((i + 1 : Nat) : Int) < (n : Int))) == true) = true) : i + 1 < n := by
  rw [beq_iff_eq, Bool.and_eq_true, decide_eq_true_iff] at h
  omega
theorem crAt_val {b : Bool} {d : List Int} {i : Nat} : Value.bool (bif b && d.getD i 0 == 13 && decide (((i + 1 : Nat) : Int) < (d.length : Int)) then d.getD (i + 1) 0 == 10 else false) = Value.bool (crAt b d i) := by
  unfold crAt
  cases (b && d.getD i 0 == 13 && decide (((i + 1 : Nat) : Int) < (d.length : Int))) <;> rfl
theorem ok27 : codeOk CT Try.f27 (Try.f27.body.get rfl) = true := by kernel_rfl
theorem l27 (w : WayT) (d : List Int) (hl : d.length ≤ 1000) : ∀ (n i : Nat) (out : List Int), i + n = d.length → out.length ≤ i → RunF CT Try.f27 (atLoop Try.f27 0) [(1, intsV .u8 d), (2, .pointer (some ⟨0, 0, none⟩)), (4, .pointer (some ⟨1, 0, none⟩)), (6, .slice (some ⟨2, 0, none⟩) out.length out.length), (7, .int .i64 i)] [mWay w, ⟨[.int .i64 0, .slice none 0 0], 0, true, true⟩, outB .u8 out] (bresV (0, out ++ plainL w.both (d.drop i))) := by
  intro n
  induction n with
  | zero =>
    intro i out hi ho
    have hb := idx_ge (i := i) (n := d.length) (by omega)
    rw [show d.drop i = [] from List.drop_eq_nil_of_le (by omega), plainL, List.append_nil]
    refine RunF.of_sRun (K := K42) (K3 := Spec3.none) (O := []) (D := [(100018, .bool false)]) (H := []) CT_ok rfl K42_ok Spec3OK.none (c := Try.f27.body.get rfl) rfl ok27 400 rfl ?_ ?_
    · repeat' (first | with_reducible exact holds_none | with_reducible exact all_nil | with_reducible refine holds_some ?_ | with_reducible refine andP_intro ?_ ?_ | with_reducible refine condP_intro (fun h => ?_) (fun h => ?_) | with_reducible refine psP_intro ?_ | with_reducible refine all_append ?_ ?_ | with_reducible refine all_under (fun h => ?_) | with_reducible refine all_one ?_ | with_reducible refine all_cons ?_ ?_)
      all_goals first | exact (rfl : @Eq (List Value) _ _) | with_reducible exact le_goal (Nat.le_of_ble_eq_true rfl) | with_reducible exact fixd_goal rfl (Nat.le_of_ble_eq_true rfl) | (with_reducible refine hit_intro ?_ ?_ <;> (simp; done)) | exact (rfl : @Eq Value _ (Value.iface _ _)) | exact (rfl : @Eq Value _ (Value.agg _)) | (with_reducible refine veq_goal ?_; simp; done) | skip
      · exact hb
      · exact outB_goal rfl
    · exact congrArg (fun v => Value.agg #[Value.int .i64 0, v]) (outB_val _ _)
  | succ n ih =>
    intro i out hi ho
    have hlt : i < d.length := by omega
    have hb := idx_lt hlt
    have h1 := ih (i + 1) (out ++ [d[i]]) (by omega) (by simp; omega)
    have h2 := ih (i + 1) out (by omega) (by omega)
    rw [List.append_assoc] at h1
    rw [plain_at hlt]
    refine RunF.of_sRun (K := K42) (K3 := Spec3.none) (O := []) (D := [(100018, .bool true), (21, .bool w.both), (26, .int .u8 d[i]), (28, .bool (w.both && d.getD i 0 == 13)), (31, .int .i64 ((i + 1 : Nat) : Int)), (35, .bool ((w.both && d.getD i 0 == 13) && decide (((i + 1 : Nat) : Int) < (d.length : Int)))), (39, .int .i64 ((i + 1 : Nat) : Int)), (41, .int .u8 (d.getD (i + 1) 0)), (43, .bool (crAt w.both d i)), (49, .int .u8 d[i])]) (H := [bresV (0, out ++ ([d[i]] ++ plainL w.both (d.drop (i + 1)))), bresV (0, out ++ plainL w.both (d.drop (i + 1)))]) CT_ok rfl K42_ok Spec3OK.none (c := Try.f27.body.get rfl) rfl ok27 400 rfl ?_ ?_
    · repeat' (first | with_reducible exact holds_none | with_reducible exact all_nil | with_reducible refine holds_some ?_ | with_reducible refine andP_intro ?_ ?_ | with_reducible refine condP_intro (fun h => ?_) (fun h => ?_) | with_reducible refine psP_intro ?_ | with_reducible refine all_append ?_ ?_ | with_reducible refine all_under (fun h => ?_) | with_reducible refine all_one ?_ | with_reducible refine all_cons ?_ ?_)
      all_goals first | exact (rfl : @Eq (List Value) _ _) | with_reducible exact le_goal (Nat.le_of_ble_eq_true rfl) | with_reducible exact fixd_goal rfl (Nat.le_of_ble_eq_true rfl) | (with_reducible refine hit_intro ?_ ?_ <;> (simp; done)) | exact (rfl : @Eq Value _ (Value.iface _ _)) | exact (rfl : @Eq Value _ (Value.agg _)) | (with_reducible refine veq_goal ?_; simp; done) | skip
      all_goals first | exact in_range hlt | exact load_ints (by decide) (by simpa using hlt) | (rw [loaded (by decide)]; simp [hlt]; done) | skip
      all_goals first | exact in_range (lt_of_guard h) | exact load_ints (by decide) (by simpa using (lt_of_guard h)) | (rw [loaded (by decide)]; simp [(lt_of_guard h)]; done) | skip
      all_goals first | (with_reducible refine app_goal ?_ ?_ ?_ <;> simp [outB] <;> omega) | skip
      all_goals first | exact hb | exact (rfl : @Eq Value _ (Value.bool w.both)) | exact congrArg (Value.int .i64) (wrap_succ (by omega)) | (exact (rfl : @Eq Value _ (Value.bool _))) | (simp [crAt, hlt]; done) | (refine veq_goal ?_; cases w.both <;> simp [crAt, hlt]; done) | skip
      · (refine RunF.normM rfl [0, 1, 4] (by decide) ?_ ?_ h1; focus (repeat' (first | with_reducible exact simT_nil | refine simT_cons rfl rfl ?_ ?_)) <;> (first | with_reducible rfl | with_reducible exact congrArg (Value.int .i64) (wrap_succ (by omega)) | exact (rfl : _ = Value.iface _ _) | exact (rfl : _ = Value.slice _ _ _) | exact (rfl : Value.int .i64 0 = _) | (simp; done)))
        refine simB_leaf rfl rfl rfl rfl rfl rfl (simB_leaf rfl rfl rfl rfl rfl rfl (simB_leaf rfl rfl rfl rfl ?_ (outB_inert _ _) simB_nil))
        simp [outB, List.take_of_length_le]
      · (refine RunF.normM rfl [0, 1, 2] (by decide) ?_ ?_ h2; focus (repeat' (first | with_reducible exact simT_nil | refine simT_cons rfl rfl ?_ ?_)) <;> (first | with_reducible rfl | with_reducible exact congrArg (Value.int .i64) (wrap_succ (by omega)) | exact (rfl : _ = Value.iface _ _) | exact (rfl : _ = Value.slice _ _ _) | exact (rfl : Value.int .i64 0 = _) | (simp; done)))
        exact simB_leaf rfl rfl rfl rfl rfl rfl (simB_leaf rfl rfl rfl rfl rfl rfl (simB_leaf rfl rfl rfl rfl rfl (outB_inert _ _) simB_nil))
    · cases crAt w.both d i <;> rfl
theorem c27 (w : WayT) (d : List Int) : Fz CT 27 [wayV w, intsV .u8 d] (bresV (bif pcode w d == 0 then (0, plainL w.both d) else (pcode w d, []))) := by
  cases hc : pcode w d == 0 with
  | true =>
    have hc0 : pcode w d = 0 := by simpa using hc
    obtain ⟨hf, hd⟩ := pcode_ok hc0
    have h1 := l27 w d hd d.length 0 [] (by omega) (by simp)
    refine Fz.of_sRun (K := K42) (K3 := Spec3.none) (O := []) (D := [(9, .int .i64 (pcode w d)), (100011, .bool false)]) (k := 400) (H := [bresV (0, plainL w.both d)]) CT_ok rfl K42_ok Spec3OK.none (c := Try.f27.body.get rfl) Try.func27 rfl (Nat.le_of_ble_eq_true rfl) (by decide) rfl ok27 rfl ?_ ?_
    · repeat' (first | with_reducible exact holds_none | with_reducible exact all_nil | with_reducible refine holds_some ?_ | with_reducible refine andP_intro ?_ ?_ | with_reducible refine condP_intro (fun h => ?_) (fun h => ?_) | with_reducible refine psP_intro ?_ | with_reducible refine all_append ?_ ?_ | with_reducible refine all_under (fun h => ?_) | with_reducible refine all_one ?_ | with_reducible refine all_cons ?_ ?_)
      all_goals first | exact (rfl : @Eq (List Value) _ _) | with_reducible exact le_goal (Nat.le_of_ble_eq_true rfl) | with_reducible exact fixd_goal rfl (Nat.le_of_ble_eq_true rfl) | (with_reducible refine hit_intro ?_ ?_ <;> (simp; done)) | exact (rfl : @Eq Value _ (Value.iface _ _)) | exact (rfl : @Eq Value _ (Value.agg _)) | (with_reducible refine veq_goal ?_; simp; done) | skip
      · rw [hc0]; rfl
      · (refine RunF.normM rfl [0, 1, 2] (by decide) ?_ ?_ h1; focus (repeat' (first | with_reducible exact simT_nil | refine simT_cons rfl rfl ?_ ?_)) <;> (first | with_reducible rfl | with_reducible exact congrArg (Value.int .i64) (wrap_succ (by omega)) | exact (rfl : _ = Value.iface _ _) | exact (rfl : _ = Value.slice _ _ _) | exact (rfl : Value.int .i64 0 = _) | (simp; done)))
        exact simB_leaf rfl rfl rfl rfl rfl rfl (simB_leaf rfl rfl rfl rfl rfl rfl (simB_leaf rfl rfl rfl rfl rfl (outB_inert _ _) simB_nil))
    · rfl
  | false =>
    have hc0 : pcode w d ≠ 0 := by simpa using hc
    refine Fz.of_sRun (K := K42) (K3 := Spec3.none) (O := []) (D := [(9, .int .i64 (pcode w d)), (100011, .bool true)]) (k := 400) (H := []) CT_ok rfl K42_ok Spec3OK.none (c := Try.f27.body.get rfl) Try.func27 rfl (Nat.le_of_ble_eq_true rfl) (by decide) rfl ok27 rfl ?_ ?_
    · repeat' (first | with_reducible exact holds_none | with_reducible exact all_nil | with_reducible refine holds_some ?_ | with_reducible refine andP_intro ?_ ?_ | with_reducible refine condP_intro (fun h => ?_) (fun h => ?_) | with_reducible refine psP_intro ?_ | with_reducible refine all_append ?_ ?_ | with_reducible refine all_under (fun h => ?_) | with_reducible refine all_one ?_ | with_reducible refine all_cons ?_ ?_)
      all_goals first | exact (rfl : @Eq (List Value) _ _) | with_reducible exact le_goal (Nat.le_of_ble_eq_true rfl) | with_reducible exact fixd_goal rfl (Nat.le_of_ble_eq_true rfl) | (with_reducible refine hit_intro ?_ ?_ <;> (simp; done)) | exact (rfl : @Eq Value _ (Value.iface _ _)) | exact (rfl : @Eq Value _ (Value.agg _)) | (with_reducible refine veq_goal ?_; simp; done) | skip
      simpa using hc0
    · rfl
def K27 : Spec := Spec.add K42 27 (fam (fun (p : WayT × (List Int)) => [wayV p.1, intsV .u8 p.2]) (fun v => (wayD (v.getD 0 .nilFunc), intsD (v.getD 1 .nilFunc))) (fun (p : WayT × (List Int)) => True) (fun (p : WayT × (List Int)) => bresV (bif pcode p.1 p.2 == 0 then (0, plainL p.1.both p.2) else (pcode p.1 p.2, []))))
theorem K27_ok : SpecOK CT K27 := SpecOK.add K42_ok (fam_ok fun p hp => c27 p.1 p.2)

theorem crAt_val2 {b : Bool} {d : List Int} {i : Nat} (h : i < d.length) : Value.bool (bif d[i] == 13 && decide (((i + 1 : Nat) : Int) < (d.length : Int)) && d.getD (i + 1) 0 == 10 then b else false) = Value.bool (crAt b d i) := by
  unfold crAt
  rw [show d.getD i 0 = d[i] by simp [h]]
  cases b <;> cases (d[i] == 13) <;> cases decide (((i + 1 : Nat) : Int) < (d.length : Int)) <;> cases (d.getD (i + 1) 0 == 10) <;> rfl
theorem ok29 : codeOk CT Try.f29 (Try.f29.body.get rfl) = true := by kernel_rfl
theorem l29 (w : WayT) (d : List Int) (hl : d.length ≤ 1000) (hw : (andI w.f 384 == 384) = w.both) : ∀ (n i : Nat) (out : List Int), i + n = d.length → out.length ≤ i → Run CT 0 Try.f29 (atLoop Try.f29 0) [(1, intsV .u8 d), (2, .pointer (some ⟨0, 0, none⟩)), (4, .pointer (some ⟨1, 0, none⟩)), (6, .slice (some ⟨2, 0, none⟩) out.length out.length), (20, intsV .u8 d), (21, .int .i64 d.length), (22, .int .i64 i)] [mWay w, ⟨[.int .i64 0, .slice none 0 0], 0, true, true⟩, outB .u8 out] (.agg #[.int .i64 0, ownS (out ++ plainL w.both (d.drop i)).length]) [outB .u8 (out ++ plainL w.both (d.drop i))] := by
  intro n
  induction n with
  | zero =>
    intro i out hi ho
    have hb := idx_ge (i := i) (n := d.length) (by omega)
    rw [show d.drop i = [] from List.drop_eq_nil_of_le (by omega), plainL, List.append_nil]
    refine RunK.of_sRunK (K := K27) (K3 := Spec3.none) (O := []) (D := [(100023, .bool false)]) CT_ok rfl K27_ok Spec3OK.none (c := Try.f29.body.get rfl) rfl ok29 400 rfl ?_
    repeat' (first | with_reducible exact holds_none | with_reducible exact all_nil | with_reducible refine holds_some ?_ | with_reducible refine andP_intro ?_ ?_ | with_reducible refine condP_intro (fun h => ?_) (fun h => ?_) | with_reducible refine psP_intro ?_ | with_reducible refine all_append ?_ ?_ | with_reducible refine all_under (fun h => ?_) | with_reducible refine all_one ?_ | with_reducible refine all_cons ?_ ?_)
    all_goals first | exact (rfl : @Eq (List Value) _ _) | with_reducible exact le_goal (Nat.le_of_ble_eq_true rfl) | with_reducible exact fixd_goal rfl (Nat.le_of_ble_eq_true rfl) | (with_reducible refine hit_intro ?_ ?_ <;> (simp; done)) | exact (rfl : @Eq Value _ (Value.iface _ _)) | exact (rfl : @Eq Value _ (Value.agg _)) | (with_reducible refine veq_goal ?_; simp; done) | skip
    · exact hb
    · exact Leaf.post CT_ok rfl [2] (by decide) (simB_leaf rfl rfl rfl rfl rfl (outB_inert _ _) simB_nil) rfl rfl
  | succ n ih =>
    intro i out hi ho
    have hlt : i < d.length := by omega
    have hb := idx_lt hlt
    have h1 := ih (i + 1) (out ++ [d[i]]) (by omega) (by simp; omega)
    have h2 := ih (i + 1) out (by omega) (by omega)
    rw [List.append_assoc] at h1
    rw [plain_at hlt]
    refine RunK.of_sRunK (K := K27) (K3 := Spec3.none) (O := []) (D := [(100023, .bool true), (26, .int .u8 d[i]), (28, .bool (d[i] == 13)), (31, .int .i64 ((i + 1 : Nat) : Int)), (35, .bool (d[i] == 13 && decide (((i + 1 : Nat) : Int) < (d.length : Int)))), (39, .int .i64 ((i + 1 : Nat) : Int)), (41, .int .u8 (d.getD (i + 1) 0)), (43, .bool ((d[i] == 13 && decide (((i + 1 : Nat) : Int) < (d.length : Int))) && d.getD (i + 1) 0 == 10)), (45, wayV w), (46, .bool w.both), (47, .bool (crAt w.both d i))]) CT_ok rfl K27_ok Spec3OK.none (c := Try.f29.body.get rfl) rfl ok29 400 rfl ?_
    repeat' (first | with_reducible exact holds_none | with_reducible exact all_nil | with_reducible refine holds_some ?_ | with_reducible refine andP_intro ?_ ?_ | with_reducible refine condP_intro (fun h => ?_) (fun h => ?_) | with_reducible refine psP_intro ?_ | with_reducible refine all_append ?_ ?_ | with_reducible refine all_under (fun h => ?_) | with_reducible refine all_one ?_ | with_reducible refine all_cons ?_ ?_)
    all_goals first | exact (rfl : @Eq (List Value) _ _) | with_reducible exact le_goal (Nat.le_of_ble_eq_true rfl) | with_reducible exact fixd_goal rfl (Nat.le_of_ble_eq_true rfl) | (with_reducible refine hit_intro ?_ ?_ <;> (simp; done)) | exact (rfl : @Eq Value _ (Value.iface _ _)) | exact (rfl : @Eq Value _ (Value.agg _)) | (with_reducible refine veq_goal ?_; simp; done) | skip
    all_goals first | exact in_range hlt | exact load_ints (by decide) (by simpa using hlt) | (rw [loaded (by decide)]; simp [hlt]; done) | skip
    all_goals first | exact in_range (lt_of_guard h) | exact load_ints (by decide) (by simpa using (lt_of_guard h)) | (rw [loaded (by decide)]; simp [(lt_of_guard h)]; done) | skip
    all_goals first | (with_reducible refine app_goal ?_ ?_ ?_ <;> simp [outB] <;> omega) | skip
    all_goals first | exact hb | exact congrArg (Value.int .i64) (wrap_succ (by omega)) | (exact (rfl : @Eq Value _ (Value.bool _))) | (simp [crAt, hlt]; done) | skip
    all_goals first | exact congrArg Value.bool hw | exact crAt_val2 hlt | skip
    · rw [h]
      (refine RunK.norm0 rfl [0, 1, 2] (by decide) ?_ ?_ h2; focus (repeat' (first | with_reducible exact simT_nil | refine simT_cons rfl rfl ?_ ?_)) <;> (first | with_reducible rfl | with_reducible exact congrArg (Value.int .i64) (wrap_succ (by omega)) | exact (rfl : _ = Value.iface _ _) | exact (rfl : _ = Value.agg _) | exact (rfl : _ = Value.slice _ _ _) | exact (rfl : _ = Value.pointer _) | exact (rfl : Value.int .i64 0 = _) | (simp; done)))
      exact simB_leaf rfl rfl rfl rfl rfl rfl (simB_leaf rfl rfl rfl rfl rfl rfl (simB_leaf rfl rfl rfl rfl rfl (outB_inert _ _) simB_nil))
    · rw [h]
      (refine RunK.norm0 rfl [0, 1, 4] (by decide) ?_ ?_ h1; focus (repeat' (first | with_reducible exact simT_nil | refine simT_cons rfl rfl ?_ ?_)) <;> (first | with_reducible rfl | with_reducible exact congrArg (Value.int .i64) (wrap_succ (by omega)) | exact (rfl : _ = Value.iface _ _) | exact (rfl : _ = Value.agg _) | exact (rfl : _ = Value.slice _ _ _) | exact (rfl : _ = Value.pointer _) | exact (rfl : Value.int .i64 0 = _) | (simp; done)))
      refine simB_leaf rfl rfl rfl rfl rfl rfl (simB_leaf rfl rfl rfl rfl rfl rfl (simB_leaf rfl rfl rfl rfl ?_ (outB_inert _ _) simB_nil))
      simp [outB, List.take_of_length_le]
theorem o29 (w : WayT) (d : List Int) (hc0 : pcode w d = 0) : OwnFz CT 29 [wayV w, intsV .u8 d] (.agg #[.int .i64 0, ownS (plainL w.both d).length]) [outB .u8 (plainL w.both d)] := by
  obtain ⟨hf, hd⟩ := pcode_ok hc0
  have h1 := l29 w d hd (WayT.both_eq hf) d.length 0 [] (by omega) (by simp)
  refine Own.of_sRunK (K := K27) (K3 := Spec3.none) (O := []) (D := [(9, wayV w), (10, .int .i64 w.fault), (12, .int .i64 (bif decide (d.length ≤ 1000) then 0 else 2)), (14, .int .i64 (pcode w d)), (100016, .bool false)]) (j := 400) CT_ok rfl K27_ok Spec3OK.none (c := Try.f29.body.get rfl) Try.func29 rfl (Nat.le_of_ble_eq_true rfl) (by decide) rfl ok29 rfl ?_
  repeat' (first | with_reducible exact holds_none | with_reducible exact all_nil | with_reducible refine holds_some ?_ | with_reducible refine andP_intro ?_ ?_ | with_reducible refine condP_intro (fun h => ?_) (fun h => ?_) | with_reducible refine psP_intro ?_ | with_reducible refine all_append ?_ ?_ | with_reducible refine all_under (fun h => ?_) | with_reducible refine all_one ?_ | with_reducible refine all_cons ?_ ?_)
  all_goals first | exact (rfl : @Eq (List Value) _ _) | with_reducible exact le_goal (Nat.le_of_ble_eq_true rfl) | with_reducible exact fixd_goal rfl (Nat.le_of_ble_eq_true rfl) | (with_reducible refine hit_intro ?_ ?_ <;> (simp; done)) | exact (rfl : @Eq Value _ (Value.iface _ _)) | exact (rfl : @Eq Value _ (Value.agg _)) | (with_reducible refine veq_goal ?_; simp; done) | skip
  · simp [firstOf, pcode]
    try grind
  · rw [hc0]; rfl
  · (refine RunK.norm0 rfl [0, 1, 3] (by decide) ?_ ?_ h1; focus (repeat' (first | with_reducible exact simT_nil | refine simT_cons rfl rfl ?_ ?_)) <;> (first | with_reducible rfl | with_reducible exact congrArg (Value.int .i64) (wrap_succ (by omega)) | exact (rfl : _ = Value.iface _ _) | exact (rfl : _ = Value.agg _) | exact (rfl : _ = Value.slice _ _ _) | exact (rfl : _ = Value.pointer _) | exact (rfl : Value.int .i64 0 = _) | (simp; done)))
    exact simB_leaf rfl rfl rfl rfl rfl rfl (simB_leaf rfl rfl rfl rfl rfl rfl (simB_leaf rfl rfl rfl rfl rfl (outB_inert _ _) simB_nil))
theorem n29 (w : WayT) (d : List Int) (hc0 : pcode w d ≠ 0) : OwnFz CT 29 [wayV w, intsV .u8 d] (.agg #[.int .i64 (pcode w d), .slice none 0 0]) [] := by
  refine Own.of_sRunK (K := K27) (K3 := Spec3.none) (O := []) (D := [(9, wayV w), (10, .int .i64 w.fault), (12, .int .i64 (bif decide (d.length ≤ 1000) then 0 else 2)), (14, .int .i64 (pcode w d)), (100016, .bool true)]) (j := 400) CT_ok rfl K27_ok Spec3OK.none (c := Try.f29.body.get rfl) Try.func29 rfl (Nat.le_of_ble_eq_true rfl) (by decide) rfl ok29 rfl ?_
  repeat' (first | with_reducible exact holds_none | with_reducible exact all_nil | with_reducible refine holds_some ?_ | with_reducible refine andP_intro ?_ ?_ | with_reducible refine condP_intro (fun h => ?_) (fun h => ?_) | with_reducible refine psP_intro ?_ | with_reducible refine all_append ?_ ?_ | with_reducible refine all_under (fun h => ?_) | with_reducible refine all_one ?_ | with_reducible refine all_cons ?_ ?_)
  all_goals first | exact (rfl : @Eq (List Value) _ _) | with_reducible exact le_goal (Nat.le_of_ble_eq_true rfl) | with_reducible exact fixd_goal rfl (Nat.le_of_ble_eq_true rfl) | (with_reducible refine hit_intro ?_ ?_ <;> (simp; done)) | exact (rfl : @Eq Value _ (Value.iface _ _)) | exact (rfl : @Eq Value _ (Value.agg _)) | (with_reducible refine veq_goal ?_; simp; done) | skip
  · simp [firstOf, pcode]
    try grind
  · simpa using hc0
  · exact Leaf.post CT_ok rfl [] (by decide) simB_nil rfl rfl
theorem c29 (w : WayT) (d : List Int) : Fz CT 29 [wayV w, intsV .u8 d] (bresV (bif pcode w d == 0 then (0, plainL w.both d) else (pcode w d, []))) := by
  cases hc : pcode w d == 0 with
  | true =>
    have h := o29 w d (by simpa using hc)
    have h1 : Fz CT 29 [wayV w, intsV .u8 d] (.agg #[.int .i64 0, Value.iface (plainL w.both d).length (.agg (List.take ((plainL w.both d).length * 1) (List.drop 0 (outB .u8 (plainL w.both d)).cells)).toArray)]) := by
      refine Fz.of_own h rfl ?_
      repeat' (first | with_reducible exact holds_none | with_reducible exact all_nil | with_reducible refine holds_some ?_ | with_reducible refine andP_intro ?_ ?_ | with_reducible refine condP_intro (fun h => ?_) (fun h => ?_) | with_reducible refine psP_intro ?_ | with_reducible refine all_append ?_ ?_ | with_reducible refine all_under (fun h => ?_) | with_reducible refine all_one ?_ | with_reducible refine all_cons ?_ ?_)
      exact outB_goal rfl
    rw [outB_val] at h1
    exact h1
  | false => exact Fz.of_own (n29 w d (by simpa using hc)) rfl all_nil
def K29 : Spec := Spec.add K27 29 (fam (fun (p : WayT × (List Int)) => [wayV p.1, intsV .u8 p.2]) (fun v => (wayD (v.getD 0 .nilFunc), intsD (v.getD 1 .nilFunc))) (fun (p : WayT × (List Int)) => True) (fun (p : WayT × (List Int)) => bresV (bif pcode p.1 p.2 == 0 then (0, plainL p.1.both p.2) else (pcode p.1 p.2, []))))
theorem K29_ok : SpecOK CT K29 := SpecOK.add K27_ok (fam_ok fun p hp => c29 p.1 p.2)
theorem ok6 : codeOk CT Try.f6 (Try.f6.body.get rfl) = true := by kernel_rfl
theorem law6 (w : WayT) (d : List Int)  : Fz CT 6 [wayV w, intsV .u8 d] (.bool true) := by
  cases hb : decide ((d.length : Int) > 1048576) with
  | true =>
    refine Fz.of_sRun (K := K29) (K3 := Spec3.none) (O := []) (D := [(100014, .bool true)]) (k := 400) (H := []) CT_ok rfl K29_ok Spec3OK.none (c := Try.f6.body.get rfl) Try.func6 rfl (Nat.le_of_ble_eq_true rfl) (by decide) rfl ok6 rfl ?_ ?_
    · repeat' (first | with_reducible exact holds_none | with_reducible exact all_nil | with_reducible refine holds_some ?_ | with_reducible refine andP_intro ?_ ?_ | with_reducible refine condP_intro (fun h => ?_) (fun h => ?_) | with_reducible refine psP_intro ?_ | with_reducible refine all_append ?_ ?_ | with_reducible refine all_under (fun h => ?_) | with_reducible refine all_one ?_ | with_reducible refine all_cons ?_ ?_)
      all_goals first | exact (rfl : @Eq (List Value) _ _) | with_reducible exact le_goal (Nat.le_of_ble_eq_true rfl) | with_reducible exact fixd_goal rfl (Nat.le_of_ble_eq_true rfl) | (with_reducible refine hit_intro ?_ ?_ <;> (simp; done)) | exact (rfl : @Eq Value _ (Value.iface _ _)) | exact (rfl : @Eq Value _ (Value.agg _)) | (with_reducible refine veq_goal ?_; simp; done) | skip
      exact hb
    · rfl
  | false =>
    have hd : d.length ≤ 1048576 := by simp at hb; omega
    cases hc : pcode w d == 0 with
    | true =>
      have hc0 : pcode w d = 0 := by simpa using hc
      obtain ⟨hf, hd1⟩ := pcode_ok hc0
      have hlen := plainL_len w.both d
      have hl32 : (plainL w.both d).length ≤ 1048576 := by omega
      have q16 : Con CT 16 [intsV .u8 d] [mWay w, mRes (0, plainL w.both d)] (ownAt 2 d.length) [mWay w, mRes (0, plainL w.both d), outB .u8 d] := by
        refine Con.lift (m := [mWay w, mRes (0, plainL w.both d)]) rfl (o16 d hd) (outB_own _ _) rfl rfl ?_ rfl
        repeat' (first | with_reducible exact holds_none | with_reducible exact all_nil | with_reducible refine holds_some ?_ | with_reducible refine andP_intro ?_ ?_ | with_reducible refine condP_intro (fun h => ?_) (fun h => ?_) | with_reducible refine psP_intro ?_ | with_reducible refine all_append ?_ ?_ | with_reducible refine all_under (fun h => ?_) | with_reducible refine all_one ?_ | with_reducible refine all_cons ?_ ?_)
        all_goals first | exact (rfl : @Eq (List Value) _ _) | with_reducible exact le_goal (Nat.le_of_ble_eq_true rfl) | with_reducible exact fixd_goal rfl (Nat.le_of_ble_eq_true rfl) | (with_reducible refine hit_intro ?_ ?_ <;> (simp; done)) | exact (rfl : @Eq Value _ (Value.iface _ _)) | exact (rfl : @Eq Value _ (Value.agg _)) | (with_reducible refine veq_goal ?_; simp; done) | skip
      have q42 : Con CT 29 [wayV w, ownAt 2 d.length] [mWay w, mRes (0, plainL w.both d), outB .u8 d] (.agg #[.int .i64 0, ownAt 3 (plainL w.both d).length]) [mWay w, mRes (0, plainL w.both d), outB .u8 d, outB .u8 (plainL w.both d)] := by
        refine Con.lift rfl (o29 w d hc0) (outB_own _ _) rfl rfl ?_ (by simp [outB])
        repeat' (first | with_reducible exact holds_none | with_reducible exact all_nil | with_reducible refine holds_some ?_ | with_reducible refine andP_intro ?_ ?_ | with_reducible refine condP_intro (fun h => ?_) (fun h => ?_) | with_reducible refine psP_intro ?_ | with_reducible refine all_append ?_ ?_ | with_reducible refine all_under (fun h => ?_) | with_reducible refine all_one ?_ | with_reducible refine all_cons ?_ ?_)
        all_goals first | exact (rfl : @Eq (List Value) _ _) | with_reducible exact le_goal (Nat.le_of_ble_eq_true rfl) | with_reducible exact fixd_goal rfl (Nat.le_of_ble_eq_true rfl) | (with_reducible refine hit_intro ?_ ?_ <;> (simp; done)) | exact (rfl : @Eq Value _ (Value.iface _ _)) | exact (rfl : @Eq Value _ (Value.agg _)) | (with_reducible refine veq_goal ?_; simp; done) | skip
        exact outB_goal rfl
      have q31 : Con CT 31 [ownAt 2 d.length, .int .i64 1] [mWay w, mRes (0, plainL w.both d), outB .u8 d, outB .u8 (plainL w.both d), mOwn 0 (plainL w.both d).length 3] (.int .i64 (1 + d.length)) [mWay w, mRes (0, plainL w.both d), outB .u8 (markL d.length 1), outB .u8 (plainL w.both d), mOwn 0 (plainL w.both d).length 3] := m31' d 1 _ 2 (by omega) (by omega) rfl
      have q32 : Con CT 32 [.agg #[.int .i64 0, ownAt 3 (plainL w.both d).length], .int .i64 1] [mWay w, mRes (0, plainL w.both d), outB .u8 (markL d.length 1), outB .u8 (plainL w.both d), mOwn 0 (plainL w.both d).length 3] (.int .i64 (1 + (plainL w.both d).length)) [mWay w, mRes (0, plainL w.both d), outB .u8 (markL d.length 1), outB .u8 (markL (plainL w.both d).length 1), mOwn 0 (plainL w.both d).length 3] := m32' 0 (plainL w.both d) 1 _ 3 (by omega) (by omega) rfl
      refine Fz.of_sRun (K := K29) (K3 := ((((Spec3.none.add 16 (conE CT 16 (fun _ _ => ownAt 2 d.length) (fun _ _ => [mWay w, mRes (0, plainL w.both d), outB .u8 d]))).add 29 (conE CT 29 (fun _ _ => .agg #[.int .i64 0, ownAt 3 (plainL w.both d).length]) (fun _ _ => [mWay w, mRes (0, plainL w.both d), outB .u8 d, outB .u8 (plainL w.both d)]))).add 31 (conE CT 31 (fun _ _ => .int .i64 (1 + d.length)) (fun _ _ => [mWay w, mRes (0, plainL w.both d), outB .u8 (markL d.length 1), outB .u8 (plainL w.both d), mOwn 0 (plainL w.both d).length 3]))).add 32 (conE CT 32 (fun _ _ => .int .i64 (1 + (plainL w.both d).length)) (fun _ _ => [mWay w, mRes (0, plainL w.both d), outB .u8 (markL d.length 1), outB .u8 (markL (plainL w.both d).length 1), mOwn 0 (plainL w.both d).length 3])))) (O := [(4, 16), (5, 29), (11, 31), (15, 32)]) (D := [(100014, .bool false), (100029, .bool false), (100034, .bool false), (100045, .bool false), (100053, .bool false), (100056, .bool false), (100065, .bool false), (100070, .bool false), (100073, .bool false), (15, wayV w), (16, wayV w), (18, intsV .u8 d), (19, bresV (0, plainL w.both d)), (21, ownAt 2 d.length), (22, wayV w), (23, wayV w), (24, ownAt 2 d.length), (25, .agg #[.int .i64 0, ownAt 3 (plainL w.both d).length]), (26, .agg #[.int .i64 0, ownAt 3 (plainL w.both d).length]), (27, bresV (0, plainL w.both d)), (30, ownAt 2 d.length), (35, ownAt 2 d.length), (37, .int .i64 (1 + d.length)), (41, .agg #[.int .i64 0, ownAt 3 (plainL w.both d).length]), (42, bresV (0, plainL w.both d)), (46, .agg #[.int .i64 0, ownAt 3 (plainL w.both d).length]), (48, .int .i64 (1 + (plainL w.both d).length)), (49, .agg #[.int .i64 0, ownAt 3 (plainL w.both d).length]), (62, bresV (0, plainL w.both d)), (63, bresV (0, plainL w.both d)), (66, .agg #[.int .i64 0, ownAt 3 (plainL w.both d).length]), (28, .bool true), (32, intsV .u8 d), (33, .bool true), (43, .bool true), (51, .int .i64 (1 + (plainL w.both d).length)), (57, wayV w), (58, wayV w), (60, intsV .u8 d), (61, bresV (0, plainL w.both d)), (64, .bool true), (68, .int .i64 (1 + (plainL w.both d).length))]) (k := 400) (H := []) CT_ok rfl K29_ok (by repeat' (first | exact Spec3OK.none | refine Spec3OK.add ?_ conE_ok)) (c := Try.f6.body.get rfl) Try.func6 rfl (Nat.le_of_ble_eq_true rfl) (by decide) rfl ok6 rfl ?_ ?_
      · repeat' (first | with_reducible exact holds_none | with_reducible exact all_nil | with_reducible refine holds_some ?_ | with_reducible refine andP_intro ?_ ?_ | with_reducible refine condP_intro (fun h => ?_) (fun h => ?_) | with_reducible refine psP_intro ?_ | with_reducible refine all_append ?_ ?_ | with_reducible refine all_under (fun h => ?_) | with_reducible refine all_one ?_ | with_reducible refine all_cons ?_ ?_)
        all_goals first | exact (rfl : @Eq (List Value) _ _) | with_reducible exact le_goal (Nat.le_of_ble_eq_true rfl) | with_reducible exact fixd_goal rfl (Nat.le_of_ble_eq_true rfl) | (with_reducible refine hit_intro ?_ ?_ <;> (simp; done)) | exact (rfl : @Eq Value _ (Value.iface _ _)) | exact (rfl : @Eq Value _ (Value.agg _)) | (with_reducible refine veq_goal ?_; simp; done) | skip
        all_goals first | rfl | exact hb | exact hit_of d (by simp) (by simp) hd | exact hit_of (d, d) (by simp [outB]) (by simp) ⟨hd, hd⟩ | exact hit_of ((0, plainL w.both d), (0, plainL w.both d)) (by simp [outB]) (by simp) ⟨hl32, hl32⟩ | exact q16 | exact q42 | exact q31 | exact q32 | exact outB_goal (by simp) | exact hit_of ((0, markL (plainL w.both d).length 1), 1) (by simp [outB]) (by simp) ⟨by omega, by simp; omega⟩ | (simp [outB, hc0, held_mark]; done) | (simp [outB, hc0, held_mark]; omega) | trace_state
      · rfl
    | false =>
      have hc0 : pcode w d ≠ 0 := by simpa using hc
      have q16 : Con CT 16 [intsV .u8 d] [mWay w, mRes (pcode w d, [])] (ownAt 2 d.length) [mWay w, mRes (pcode w d, []), outB .u8 d] := by
        refine Con.lift (m := [mWay w, mRes (pcode w d, [])]) rfl (o16 d hd) (outB_own _ _) rfl rfl ?_ rfl
        repeat' (first | with_reducible exact holds_none | with_reducible exact all_nil | with_reducible refine holds_some ?_ | with_reducible refine andP_intro ?_ ?_ | with_reducible refine condP_intro (fun h => ?_) (fun h => ?_) | with_reducible refine psP_intro ?_ | with_reducible refine all_append ?_ ?_ | with_reducible refine all_under (fun h => ?_) | with_reducible refine all_one ?_ | with_reducible refine all_cons ?_ ?_)
        all_goals first | exact (rfl : @Eq (List Value) _ _) | with_reducible exact le_goal (Nat.le_of_ble_eq_true rfl) | with_reducible exact fixd_goal rfl (Nat.le_of_ble_eq_true rfl) | (with_reducible refine hit_intro ?_ ?_ <;> (simp; done)) | exact (rfl : @Eq Value _ (Value.iface _ _)) | exact (rfl : @Eq Value _ (Value.agg _)) | (with_reducible refine veq_goal ?_; simp; done) | skip
      have q42 : Con CT 29 [wayV w, ownAt 2 d.length] [mWay w, mRes (pcode w d, []), outB .u8 d] (.agg #[.int .i64 (pcode w d), .slice none 0 0]) [mWay w, mRes (pcode w d, []), outB .u8 d] := by
        refine Con.lift (m := [mWay w, mRes (pcode w d, []), outB .u8 d]) rfl (n29 w d hc0) trivial rfl rfl ?_ (by simp [outB])
        repeat' (first | with_reducible exact holds_none | with_reducible exact all_nil | with_reducible refine holds_some ?_ | with_reducible refine andP_intro ?_ ?_ | with_reducible refine condP_intro (fun h => ?_) (fun h => ?_) | with_reducible refine psP_intro ?_ | with_reducible refine all_append ?_ ?_ | with_reducible refine all_under (fun h => ?_) | with_reducible refine all_one ?_ | with_reducible refine all_cons ?_ ?_)
        all_goals first | exact (rfl : @Eq (List Value) _ _) | with_reducible exact le_goal (Nat.le_of_ble_eq_true rfl) | with_reducible exact fixd_goal rfl (Nat.le_of_ble_eq_true rfl) | (with_reducible refine hit_intro ?_ ?_ <;> (simp; done)) | exact (rfl : @Eq Value _ (Value.iface _ _)) | exact (rfl : @Eq Value _ (Value.agg _)) | (with_reducible refine veq_goal ?_; simp; done) | skip
        exact outB_goal rfl
      have q31 : Con CT 31 [ownAt 2 d.length, .int .i64 1] [mWay w, mRes (pcode w d, []), outB .u8 d, mNil (pcode w d)] (.int .i64 (1 + d.length)) [mWay w, mRes (pcode w d, []), outB .u8 (markL d.length 1), mNil (pcode w d)] := m31' d 1 _ 2 (by omega) (by omega) rfl
      refine Fz.of_sRun (K := K29) (K3 := (((Spec3.none.add 16 (conE CT 16 (fun _ _ => ownAt 2 d.length) (fun _ _ => [mWay w, mRes (pcode w d, []), outB .u8 d]))).add 29 (conE CT 29 (fun _ _ => .agg #[.int .i64 (pcode w d), .slice none 0 0]) (fun _ _ => [mWay w, mRes (pcode w d, []), outB .u8 d]))).add 31 (conE CT 31 (fun _ _ => .int .i64 (1 + d.length)) (fun _ _ => [mWay w, mRes (pcode w d, []), outB .u8 (markL d.length 1), mNil (pcode w d)])))) (O := [(4, 16), (5, 29), (11, 31)]) (D := [(100014, .bool false), (100029, .bool false), (100034, .bool false), (100045, .bool false), (100053, .bool false), (100056, .bool false), (100065, .bool false), (100070, .bool false), (100073, .bool false), (15, wayV w), (16, wayV w), (18, intsV .u8 d), (19, bresV (pcode w d, [])), (21, ownAt 2 d.length), (22, wayV w), (23, wayV w), (24, ownAt 2 d.length), (25, .agg #[.int .i64 (pcode w d), .slice none 0 0]), (26, .agg #[.int .i64 (pcode w d), .slice none 0 0]), (27, bresV (pcode w d, [])), (30, ownAt 2 d.length), (35, ownAt 2 d.length), (37, .int .i64 (1 + d.length)), (41, .agg #[.int .i64 (pcode w d), .slice none 0 0]), (42, bresV (pcode w d, [])), (46, .agg #[.int .i64 (pcode w d), .slice none 0 0]), (48, .int .i64 1), (49, .agg #[.int .i64 (pcode w d), .slice none 0 0]), (62, bresV (pcode w d, [])), (63, bresV (pcode w d, [])), (66, .agg #[.int .i64 (pcode w d), .slice none 0 0]), (28, .bool true), (32, intsV .u8 d), (33, .bool true), (43, .bool true), (51, .int .i64 1), (57, wayV w), (58, wayV w), (60, intsV .u8 d), (61, bresV (pcode w d, [])), (64, .bool true), (68, .int .i64 1)]) (k := 400) (H := []) CT_ok rfl K29_ok (by repeat' (first | exact Spec3OK.none | refine Spec3OK.add ?_ conE_ok)) (c := Try.f6.body.get rfl) Try.func6 rfl (Nat.le_of_ble_eq_true rfl) (by decide) rfl ok6 rfl ?_ ?_
      · repeat' (first | with_reducible exact holds_none | with_reducible exact all_nil | with_reducible refine holds_some ?_ | with_reducible refine andP_intro ?_ ?_ | with_reducible refine condP_intro (fun h => ?_) (fun h => ?_) | with_reducible refine psP_intro ?_ | with_reducible refine all_append ?_ ?_ | with_reducible refine all_under (fun h => ?_) | with_reducible refine all_one ?_ | with_reducible refine all_cons ?_ ?_)
        all_goals first | exact (rfl : @Eq (List Value) _ _) | with_reducible exact le_goal (Nat.le_of_ble_eq_true rfl) | with_reducible exact fixd_goal rfl (Nat.le_of_ble_eq_true rfl) | (with_reducible refine hit_intro ?_ ?_ <;> (simp; done)) | exact (rfl : @Eq Value _ (Value.iface _ _)) | exact (rfl : @Eq Value _ (Value.agg _)) | (with_reducible refine veq_goal ?_; simp; done) | skip
        all_goals first | rfl | exact hb | exact hit_of d (by simp) (by simp) hd | exact hit_of (d, d) (by simp [outB]) (by simp) ⟨hd, hd⟩ | exact hit_of ((pcode w d, []), (pcode w d, [])) (by simp [outB]) (by simp) (by simp) | exact q16 | exact q42 | exact q31 | exact outB_goal (by simp) | exact hit_of ((pcode w d, []), 1) (by simp) (by simp) rfl | exact hit_of ((pcode w d, []), 1) (by simp) (by simp) (by simp) | (simp [outB, hc0, hc, held_mark, heldL]; done) | (simp [outB, hc0, held_mark]; omega) | trace_state
      · rfl
theorem all_FnExactPlainBytes : ∀ xs, TypedAll CT [41, 22] xs → Fz CT 6 xs (.bool true)
  | [a, b], h => by
    obtain ⟨cs, rfl, hw⟩ : ∃ cs : Array Value, a = .agg cs ∧ Typed CT 41 cs.toList := h.1
    obtain ⟨w, hw⟩ := typed_way hw
    obtain ⟨d, rfl, hd, _⟩ := typed_ints h.2.1 rfl rfl rfl
    obtain ⟨cs⟩ := cs
    simp only at hw
    subst hw
    exact law6 w d
  | [], h => h.elim
  | [_], h => h.2.elim
  | _ :: _ :: _ :: _, h => h.2.2.elim
end Go.Ab
