/- Contracts: copies of bytes and lines; the first law. -/
import Derived.Test.YtkoahogalplhhaaC3
import Derived.Test.YtkoahogalplhhaaAbD
namespace Go.Ab
open Go.Proofs
set_option maxRecDepth 100000
set_option linter.unusedVariables false
set_option linter.unusedSimpArgs false

theorem ok16 : codeOk CT Try.f16 (Try.f16.body.get rfl) = true := by kernel_rfl
theorem l16 (d : List Int) (hl : d.length ≤ 1048576) : ∀ (n i : Nat), i + n = d.length → RunF CT Try.f16 (atLoop Try.f16 0) [(0, intsV .u8 d), (3, .slice (some ⟨0, 0, none⟩) d.length d.length), (4, .int .i64 i)] [fillB (d.map (.int .u8)) i (.int .u8 0)] (intsV .u8 d) := by
  intro n
  induction n with
  | zero =>
    intro i hi
    have hb := idx_ge (i := i) (n := d.length) (by omega)
    have he : (d.map (Value.int .u8)).length ≤ i := by simp; omega
    refine RunF.of_sRun (K := K24) (K3 := Spec3.none) (O := []) (D := []) (H := [intsV .u8 d]) CT_ok rfl K24_ok Spec3OK.none (c := Try.f16.body.get rfl) rfl ok16 400 rfl ?_ ?_
    · repeat' (first | refine condP_ff hb ?_ | with_reducible exact holds_none | with_reducible exact all_nil | with_reducible refine holds_some ?_ | with_reducible refine andP_intro ?_ ?_ | with_reducible refine condP_intro (fun h => ?_) (fun h => ?_) | with_reducible refine psP_intro ?_ | with_reducible refine all_append ?_ ?_ | with_reducible refine all_under (fun h => ?_) | with_reducible refine all_one ?_ | with_reducible refine all_cons ?_ ?_)
      all_goals first | exact (rfl : @Eq (List Value) _ _) | with_reducible exact le_goal (Nat.le_of_ble_eq_true rfl) | with_reducible exact fixd_goal rfl (Nat.le_of_ble_eq_true rfl) | (with_reducible refine hit_intro ?_ ?_ <;> (simp; done)) | exact (rfl : @Eq Value _ (Value.iface _ _)) | exact (rfl : @Eq Value _ (Value.agg _)) | (with_reducible refine veq_goal ?_; simp; done) | skip
      exact fillB_goal he (by simp) (all_fixd_int _ _)
    · refine vif_ff hb ?_
      exact congrArg (fun c : List Value => Value.iface d.length (.agg c.toArray)) (fillB_all he (by simp))
  | succ n ih =>
    intro i hi
    have hlt : i < d.length := by omega
    have hb := idx_lt hlt
    refine RunF.of_sRun (K := K24) (K3 := Spec3.none) (O := []) (D := [(19, .int .u8 d[i])]) (H := [intsV .u8 d]) CT_ok rfl K24_ok Spec3OK.none (c := Try.f16.body.get rfl) rfl ok16 400 rfl ?_ ?_
    · repeat' (first | refine condP_tt hb ?_ | with_reducible exact holds_none | with_reducible exact all_nil | with_reducible refine holds_some ?_ | with_reducible refine andP_intro ?_ ?_ | with_reducible refine condP_intro (fun h => ?_) (fun h => ?_) | with_reducible refine psP_intro ?_ | with_reducible refine all_append ?_ ?_ | with_reducible refine all_under (fun h => ?_) | with_reducible refine all_one ?_ | with_reducible refine all_cons ?_ ?_)
      all_goals first | exact (rfl : @Eq (List Value) _ _) | with_reducible exact le_goal (Nat.le_of_ble_eq_true rfl) | with_reducible exact fixd_goal rfl (Nat.le_of_ble_eq_true rfl) | (with_reducible refine hit_intro ?_ ?_ <;> (simp; done)) | exact (rfl : @Eq Value _ (Value.iface _ _)) | exact (rfl : @Eq Value _ (Value.agg _)) | (with_reducible refine veq_goal ?_; simp; done) | skip
      · exact in_range hlt
      · exact load_ints (by decide) (by simpa using hlt)
      · rw [loaded (by decide)]; simp [hlt]
      · exact in_range hlt
      · have := fillB_len (l := d.map (.int .u8)) (z := .int .u8 0) (i := i) (by simp; omega)
        show 0 + i * 1 + 1 ≤ (fillB (d.map (.int .u8)) i (.int .u8 0)).cells.length
        rw [this]
        simp
        omega
      · have hih := ih (i + 1) (by omega)
        (refine RunF.normM rfl [0] (by decide) ?_ ?_ hih; focus (repeat' (first | with_reducible exact simT_nil | refine simT_cons rfl rfl ?_ ?_)) <;> (first | with_reducible rfl | with_reducible exact congrArg (Value.int .i64) (wrap_succ (by omega)) | exact (rfl : _ = Value.iface _ _) | exact (rfl : _ = Value.slice _ _ _) | exact (rfl : Value.int .i64 0 = _) | (simp; done)))
        refine simB_leaf rfl rfl rfl rfl ?_ (fillB_inert (all_inert_int _ _) rfl) simB_nil
        exact fillB_lay (l := d.map (.int .u8)) (by simpa using hlt) (by simp)
    · exact vif_tt hb rfl
theorem c16 (d : List Int) (hp : d.length ≤ 1048576) : Fz CT 16 [intsV .u8 d] (intsV .u8 d) := by
  refine Fz.of_sRun (K := K24) (K3 := Spec3.none) (O := []) (D := []) (k := 400) (H := [intsV .u8 d]) CT_ok rfl K24_ok Spec3OK.none (c := Try.f16.body.get rfl) Try.func16 rfl (Nat.le_of_ble_eq_true rfl) (by decide) rfl ok16 rfl ?_ ?_
  · repeat' (first | with_reducible exact holds_none | with_reducible exact all_nil | with_reducible refine holds_some ?_ | with_reducible refine andP_intro ?_ ?_ | with_reducible refine condP_intro (fun h => ?_) (fun h => ?_) | with_reducible refine psP_intro ?_ | with_reducible refine all_append ?_ ?_ | with_reducible refine all_under (fun h => ?_) | with_reducible refine all_one ?_ | with_reducible refine all_cons ?_ ?_)
    all_goals first | exact (rfl : @Eq (List Value) _ _) | with_reducible exact le_goal (Nat.le_of_ble_eq_true rfl) | with_reducible exact fixd_goal rfl (Nat.le_of_ble_eq_true rfl) | (with_reducible refine hit_intro ?_ ?_ <;> (simp; done)) | exact (rfl : @Eq Value _ (Value.iface _ _)) | exact (rfl : @Eq Value _ (Value.agg _)) | (with_reducible refine veq_goal ?_; simp; done) | skip
    · refine ⟨by omega, Int.le_refl _, ?_, ?_⟩ <;> (try simp) <;> omega
    · have := l16 d hp d.length 0 (by omega)
      (refine RunF.normM rfl [0] (by decide) ?_ ?_ this; focus (repeat' (first | with_reducible exact simT_nil | refine simT_cons rfl rfl ?_ ?_)) <;> (first | with_reducible rfl | with_reducible exact congrArg (Value.int .i64) (wrap_succ (by omega)) | exact (rfl : _ = Value.iface _ _) | exact (rfl : _ = Value.slice _ _ _) | exact (rfl : Value.int .i64 0 = _) | (simp; done)))
      refine simB_leaf rfl rfl rfl rfl ?_ (fillB_inert (all_inert_int _ _) rfl) simB_nil
      exact fillB_new _ _ _ (by simp)
  · rfl
def K16 : Spec := Spec.add K24 16 (fam (fun (p : (List Int)) => [intsV .u8 p]) (fun v => intsD (v.getD 0 .nilFunc)) (fun (p : (List Int)) => p.length ≤ 1048576) (fun (p : (List Int)) => intsV .u8 p))
theorem K16_ok : SpecOK CT K16 := SpecOK.add K24_ok (fam_ok fun p hp => c16 p hp)

theorem ok74 : codeOk CT Try.f74 (Try.f74.body.get rfl) = true := by kernel_rfl
theorem l74 (d : List (List Int)) (hd : bssSmall d) : ∀ (n i : Nat), i + n = d.length → RunF CT Try.f74 (atLoop Try.f74 0) [(0, bssV d), (3, .slice (some ⟨0, 0, none⟩) d.length d.length), (4, .int .i64 i)] [fillB (d.map (intsV .u8)) i (.slice none 0 0)] (bssV d) := by
  intro n
  have hl := hd.1
  induction n with
  | zero =>
    intro i hi
    have hb := idx_ge (i := i) (n := d.length) (by omega)
    have he : (d.map (intsV .u8)).length ≤ i := by simp; omega
    refine RunF.of_sRun (K := K16) (K3 := Spec3.none) (O := []) (D := []) (H := [bssV d]) CT_ok rfl K16_ok Spec3OK.none (c := Try.f74.body.get rfl) rfl ok74 400 rfl ?_ ?_
    · repeat' (first | refine condP_ff hb ?_ | with_reducible exact holds_none | with_reducible exact all_nil | with_reducible refine holds_some ?_ | with_reducible refine andP_intro ?_ ?_ | with_reducible refine condP_intro (fun h => ?_) (fun h => ?_) | with_reducible refine psP_intro ?_ | with_reducible refine all_append ?_ ?_ | with_reducible refine all_under (fun h => ?_) | with_reducible refine all_one ?_ | with_reducible refine all_cons ?_ ?_)
      all_goals first | exact (rfl : @Eq (List Value) _ _) | with_reducible exact le_goal (Nat.le_of_ble_eq_true rfl) | with_reducible exact fixd_goal rfl (Nat.le_of_ble_eq_true rfl) | (with_reducible refine hit_intro ?_ ?_ <;> (simp; done)) | exact (rfl : @Eq Value _ (Value.iface _ _)) | exact (rfl : @Eq Value _ (Value.agg _)) | (with_reducible refine veq_goal ?_; simp; done) | skip
      exact fillB_goal he (by simp) (all_fixd_ints _ _)
    · refine vif_ff hb ?_
      exact congrArg (fun c : List Value => Value.iface d.length (.agg c.toArray)) (fillB_all he (by simp))
  | succ n ih =>
    intro i hi
    have hlt : i < d.length := by omega
    have hb := idx_lt hlt
    refine RunF.of_sRun (K := K16) (K3 := Spec3.none) (O := []) (D := [(19, intsV .u8 d[i]), (20, intsV .u8 d[i])]) (H := [bssV d]) CT_ok rfl K16_ok Spec3OK.none (c := Try.f74.body.get rfl) rfl ok74 400 rfl ?_ ?_
    · repeat' (first | refine condP_tt hb ?_ | with_reducible exact holds_none | with_reducible exact all_nil | with_reducible refine holds_some ?_ | with_reducible refine andP_intro ?_ ?_ | with_reducible refine condP_intro (fun h => ?_) (fun h => ?_) | with_reducible refine psP_intro ?_ | with_reducible refine all_append ?_ ?_ | with_reducible refine all_under (fun h => ?_) | with_reducible refine all_one ?_ | with_reducible refine all_cons ?_ ?_)
      all_goals first | exact (rfl : @Eq (List Value) _ _) | with_reducible exact le_goal (Nat.le_of_ble_eq_true rfl) | with_reducible exact fixd_goal rfl (Nat.le_of_ble_eq_true rfl) | (with_reducible refine hit_intro ?_ ?_ <;> (simp; done)) | exact (rfl : @Eq Value _ (Value.iface _ _)) | exact (rfl : @Eq Value _ (Value.agg _)) | (with_reducible refine veq_goal ?_; simp; done) | skip
      · exact in_range hlt
      · exact load_bss (r := d) (by decide) (by simpa using hlt)
      · rw [loaded_bss (r := d) (by decide) (by simpa using hlt)]; simp [hlt]
      · exact hit_of d[i] rfl (by simp) (hd.2 _ (List.getElem_mem hlt))
      · exact in_range hlt
      · have := fillB_len (l := d.map (intsV .u8)) (z := .slice none 0 0) (i := i) (by simp; omega)
        show 0 + i * 1 + 1 ≤ (fillB (d.map (intsV .u8)) i (.slice none 0 0)).cells.length
        rw [this]
        simp
        omega
      · have hih := ih (i + 1) (by omega)
        (refine RunF.normM rfl [0] (by decide) ?_ ?_ hih; focus (repeat' (first | with_reducible exact simT_nil | refine simT_cons rfl rfl ?_ ?_)) <;> (first | with_reducible rfl | with_reducible exact congrArg (Value.int .i64) (wrap_succ (by omega)) | exact (rfl : _ = Value.iface _ _) | exact (rfl : _ = Value.slice _ _ _) | exact (rfl : Value.int .i64 0 = _) | (simp; done)))
        refine simB_leaf rfl rfl rfl rfl ?_ (fillB_inert (all_inert_ints _ _) rfl) simB_nil
        exact fillB_lay (l := d.map (intsV .u8)) (by simpa using hlt) (by simp)
    · exact vif_tt hb rfl
theorem c74 (d : List (List Int)) (hp : bssSmall d) : Fz CT 74 [bssV d] (bssV d) := by
  have hl := hp.1
  refine Fz.of_sRun (K := K16) (K3 := Spec3.none) (O := []) (D := []) (k := 400) (H := [bssV d]) CT_ok rfl K16_ok Spec3OK.none (c := Try.f74.body.get rfl) Try.func74 rfl (Nat.le_of_ble_eq_true rfl) (by decide) rfl ok74 rfl ?_ ?_
  · repeat' (first | with_reducible exact holds_none | with_reducible exact all_nil | with_reducible refine holds_some ?_ | with_reducible refine andP_intro ?_ ?_ | with_reducible refine condP_intro (fun h => ?_) (fun h => ?_) | with_reducible refine psP_intro ?_ | with_reducible refine all_append ?_ ?_ | with_reducible refine all_under (fun h => ?_) | with_reducible refine all_one ?_ | with_reducible refine all_cons ?_ ?_)
    all_goals first | exact (rfl : @Eq (List Value) _ _) | with_reducible exact le_goal (Nat.le_of_ble_eq_true rfl) | with_reducible exact fixd_goal rfl (Nat.le_of_ble_eq_true rfl) | (with_reducible refine hit_intro ?_ ?_ <;> (simp; done)) | exact (rfl : @Eq Value _ (Value.iface _ _)) | exact (rfl : @Eq Value _ (Value.agg _)) | (with_reducible refine veq_goal ?_; simp; done) | skip
    · refine ⟨by omega, Int.le_refl _, ?_, ?_⟩ <;> (try simp) <;> omega
    · have := l74 d hp d.length 0 (by omega)
      (refine RunF.normM rfl [0] (by decide) ?_ ?_ this; focus (repeat' (first | with_reducible exact simT_nil | refine simT_cons rfl rfl ?_ ?_)) <;> (first | with_reducible rfl | with_reducible exact congrArg (Value.int .i64) (wrap_succ (by omega)) | exact (rfl : _ = Value.iface _ _) | exact (rfl : _ = Value.slice _ _ _) | exact (rfl : Value.int .i64 0 = _) | (simp; done)))
      refine simB_leaf rfl rfl rfl rfl ?_ (fillB_inert (all_inert_ints _ _) rfl) simB_nil
      exact fillB_new _ _ _ (by simp)
  · rfl
def K74 : Spec := Spec.add K16 74 (fam (fun (p : (List (List Int))) => [bssV p]) (fun v => bssD (v.getD 0 .nilFunc)) (fun (p : (List (List Int))) => bssSmall p) (fun (p : (List (List Int))) => bssV p))
theorem K74_ok : SpecOK CT K74 := SpecOK.add K16_ok (fam_ok fun p hp => c74 p hp)

theorem ok22 : codeOk CT Try.f22 (Try.f22.body.get rfl) = true := by kernel_rfl
theorem c22 (l : LineT) (hp : l.small) : Fz CT 22 [lineV l] (lineV l) := by
  have hb := hp.bss
  refine Fz.of_sRun (K := K74) (K3 := Spec3.none) (O := []) (D := [(5, bssV l.r), (6, bssV l.r), (9, intsV .u8 l.e), (10, intsV .u8 l.e), (13, .bool l.lit), (16, .int .i64 l.br)]) (k := 400) (H := []) CT_ok rfl K74_ok Spec3OK.none (c := Try.f22.body.get rfl) Try.func22 rfl (Nat.le_of_ble_eq_true rfl) (by decide) rfl ok22 rfl ?_ ?_
  · repeat' (first | with_reducible exact holds_none | with_reducible exact all_nil | with_reducible refine holds_some ?_ | with_reducible refine andP_intro ?_ ?_ | with_reducible refine condP_intro (fun h => ?_) (fun h => ?_) | with_reducible refine psP_intro ?_ | with_reducible refine all_append ?_ ?_ | with_reducible refine all_under (fun h => ?_) | with_reducible refine all_one ?_ | with_reducible refine all_cons ?_ ?_)
    all_goals first | exact (rfl : @Eq (List Value) _ _) | with_reducible exact le_goal (Nat.le_of_ble_eq_true rfl) | with_reducible exact fixd_goal rfl (Nat.le_of_ble_eq_true rfl) | (with_reducible refine hit_intro ?_ ?_ <;> (simp; done)) | exact (rfl : @Eq Value _ (Value.iface _ _)) | exact (rfl : @Eq Value _ (Value.agg _)) | (with_reducible refine veq_goal ?_; simp; done) | skip
    · exact hit_of l.r rfl (by simp) hb.1
    · exact hit_of l.e rfl (by simp) hb.2
  · rfl
def K22 : Spec := Spec.add K74 22 (fam (fun (p : LineT) => [lineV p]) (fun v => lineD (v.getD 0 .nilFunc)) (fun (p : LineT) => p.small) (fun (p : LineT) => lineV p))
theorem K22_ok : SpecOK CT K22 := SpecOK.add K74_ok (fam_ok fun p hp => c22 p hp)

theorem ok5 : codeOk CT Try.f5 (Try.f5.body.get rfl) = true := by kernel_rfl
theorem LineT.eqv_refl (l : LineT) : l.eqv l = true := by simp [LineT.eqv]
theorem law5 (l : LineT) (hl : l.wf) : Fz CT 5 [lineV l] (.bool true) := by
  cases hs : decide (szLine l 1048576 < 0) with
  | true =>
    refine Fz.of_sRun (K := K22) (K3 := Spec3.none) (O := []) (D := [(7, lineV l), (9, .int .i64 (szLine l 1048576)), (12, lineV l), (13, lineV l), (14, .int .i64 l.fault), (15, lineV l), (16, lineV l), (17, lineV l), (18, .int .i64 l.fault), (22, lineV l), (23, lineV l), (24, lineV l), (25, .bool true)]) (k := 400) (H := []) CT_ok rfl K22_ok Spec3OK.none (c := Try.f5.body.get rfl) Try.func5 rfl (Nat.le_of_ble_eq_true rfl) (by decide) rfl ok5 rfl ?_ ?_
    · repeat' (first | refine condP_tt hs ?_ | with_reducible exact holds_none | with_reducible exact all_nil | with_reducible refine holds_some ?_ | with_reducible refine andP_intro ?_ ?_ | with_reducible refine condP_intro (fun h => ?_) (fun h => ?_) | with_reducible refine psP_intro ?_ | with_reducible refine all_append ?_ ?_ | with_reducible refine all_under (fun h => ?_) | with_reducible refine all_one ?_ | with_reducible refine all_cons ?_ ?_)
      all_goals first | exact (rfl : @Eq (List Value) _ _) | with_reducible exact le_goal (Nat.le_of_ble_eq_true rfl) | with_reducible exact fixd_goal rfl (Nat.le_of_ble_eq_true rfl) | (with_reducible refine hit_intro ?_ ?_ <;> (simp; done)) | exact (rfl : @Eq Value _ (Value.iface _ _)) | exact (rfl : @Eq Value _ (Value.agg _)) | (with_reducible refine veq_goal ?_; simp; done) | skip
      exact hit_of (l, 1048576) rfl (by simp) ⟨hl, by simp, by simp⟩
    · exact vbool_tt hs rfl
  | false =>
    have hsm : l.small := szLine_small (by simpa using hs)
    refine Fz.of_sRun (K := K22) (K3 := Spec3.none) (O := []) (D := [(7, lineV l), (9, .int .i64 (szLine l 1048576)), (12, lineV l), (13, lineV l), (14, .int .i64 l.fault), (15, lineV l), (16, lineV l), (17, lineV l), (18, .int .i64 l.fault), (22, lineV l), (23, lineV l), (24, lineV l), (25, .bool true)]) (k := 400) (H := []) CT_ok rfl K22_ok Spec3OK.none (c := Try.f5.body.get rfl) Try.func5 rfl (Nat.le_of_ble_eq_true rfl) (by decide) rfl ok5 rfl ?_ ?_
    · repeat' (first | refine condP_ff hs ?_ | with_reducible exact holds_none | with_reducible exact all_nil | with_reducible refine holds_some ?_ | with_reducible refine andP_intro ?_ ?_ | with_reducible refine condP_intro (fun h => ?_) (fun h => ?_) | with_reducible refine psP_intro ?_ | with_reducible refine all_append ?_ ?_ | with_reducible refine all_under (fun h => ?_) | with_reducible refine all_one ?_ | with_reducible refine all_cons ?_ ?_)
      all_goals first | exact (rfl : @Eq (List Value) _ _) | with_reducible exact le_goal (Nat.le_of_ble_eq_true rfl) | with_reducible exact fixd_goal rfl (Nat.le_of_ble_eq_true rfl) | (with_reducible refine hit_intro ?_ ?_ <;> (simp; done)) | exact (rfl : @Eq Value _ (Value.iface _ _)) | exact (rfl : @Eq Value _ (Value.agg _)) | (with_reducible refine veq_goal ?_; simp; done) | skip
      all_goals first | exact hit_of (l, 1048576) rfl (by simp) ⟨hl, by simp, by simp⟩ | exact hit_of l rfl (by simp) hsm | exact hit_of (l, l) rfl (by simp) ⟨hsm, hsm⟩ | simp [LineT.eqv_refl]
    · refine vbool_ff hs ?_
      simp
end Go.Ab
