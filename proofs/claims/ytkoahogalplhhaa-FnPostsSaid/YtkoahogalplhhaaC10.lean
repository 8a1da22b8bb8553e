/- Contracts of PostBytes. -/
import Derived.Test.YtkoahogalplhhaaC9
import Derived.Test.YtkoahogalplhhaaAbD
namespace Go.Ab
open Go.Proofs
set_option maxRecDepth 100000
set_option linter.unusedVariables false
set_option linter.unusedSimpArgs false
theorem ok70 : codeOk CT Try.f70 (Try.f70.body.get rfl) = true := by kernel_rfl
theorem c70 (d : List Int) : Fz CT 70 [intsV .u8 d] (.int .i64 (bif decide (d.length ≤ 1000) then 0 else 2)) := by
  refine Fz.of_sRun (K := K34) (K3 := Spec3.none) (O := []) (D := []) (k := 400) (H := []) CT_ok rfl K34_ok Spec3OK.none (c := Try.f70.body.get rfl) Try.func70 rfl (Nat.le_of_ble_eq_true rfl) (by decide) rfl ok70 rfl ?_ ?_
  · repeat' (first | with_reducible exact holds_none | with_reducible exact all_nil | with_reducible refine holds_some ?_ | with_reducible refine andP_intro ?_ ?_ | with_reducible refine condP_intro (fun h => ?_) (fun h => ?_) | with_reducible refine psP_intro ?_ | with_reducible refine all_append ?_ ?_ | with_reducible refine all_under (fun h => ?_) | with_reducible refine all_one ?_ | with_reducible refine all_cons ?_ ?_)
    all_goals first | exact (rfl : @Eq (List Value) _ _) | with_reducible exact le_goal (Nat.le_of_ble_eq_true rfl) | with_reducible exact fixd_goal rfl (Nat.le_of_ble_eq_true rfl) | (with_reducible refine hit_intro ?_ ?_ <;> (simp; done)) | exact (rfl : @Eq Value _ (Value.iface _ _)) | exact (rfl : @Eq Value _ (Value.agg _)) | (with_reducible refine veq_goal ?_; simp; done) | skip
  · simp
    grind
def K70 : Spec := Spec.add K34 70 (fam (fun (p : (List Int)) => [intsV .u8 p]) (fun v => intsD (v.getD 0 .nilFunc)) (fun (p : (List Int)) => True) (fun (p : (List Int)) => .int .i64 (bif decide (p.length ≤ 1000) then 0 else 2)))
theorem K70_ok : SpecOK CT K70 := SpecOK.add K34_ok (fam_ok fun p hp => c70 p)
def pcode (w : WayT) (d : List Int) : Int := bif w.fault == 0 then (bif decide (d.length ≤ 1000) then 0 else 2) else w.fault
theorem ok83 : codeOk CT Try.f83 (Try.f83.body.get rfl) = true := by kernel_rfl
theorem c83 (w : WayT) (d : List Int) : Fz CT 83 [wayP w, intsV .u8 d] (.int .i64 (pcode w d)) := by
  refine Fz.of_sRun (K := K70) (K3 := Spec3.none) (O := []) (D := [(7, .int .i64 w.fault)]) (k := 400) (H := []) CT_ok rfl K70_ok Spec3OK.none (c := Try.f83.body.get rfl) Try.func83 rfl (Nat.le_of_ble_eq_true rfl) (by decide) rfl ok83 rfl ?_ ?_
  · repeat' (first | with_reducible exact holds_none | with_reducible exact all_nil | with_reducible refine holds_some ?_ | with_reducible refine andP_intro ?_ ?_ | with_reducible refine condP_intro (fun h => ?_) (fun h => ?_) | with_reducible refine psP_intro ?_ | with_reducible refine all_append ?_ ?_ | with_reducible refine all_under (fun h => ?_) | with_reducible refine all_one ?_ | with_reducible refine all_cons ?_ ?_)
    all_goals first | exact (rfl : @Eq (List Value) _ _) | with_reducible exact le_goal (Nat.le_of_ble_eq_true rfl) | with_reducible exact fixd_goal rfl (Nat.le_of_ble_eq_true rfl) | (with_reducible refine hit_intro ?_ ?_ <;> (simp; done)) | exact (rfl : @Eq Value _ (Value.iface _ _)) | exact (rfl : @Eq Value _ (Value.agg _)) | (with_reducible refine veq_goal ?_; simp; done) | skip
  · simp [pcode]
    grind
def K83 : Spec := Spec.add K70 83 (fam (fun (p : WayT × (List Int)) => [wayP p.1, intsV .u8 p.2]) (fun v => (wayD (v.getD 0 .nilFunc), intsD (v.getD 1 .nilFunc))) (fun (p : WayT × (List Int)) => True) (fun (p : WayT × (List Int)) => .int .i64 (pcode p.1 p.2)))
theorem K83_ok : SpecOK CT K83 := SpecOK.add K70_ok (fam_ok fun p hp => c83 p.1 p.2)

/-- A return ahead of each line feed. -/
def postL (b : Bool) : List Int → List Int
  | [] => []
  | x :: xs => bif x == 10 && b then 13 :: x :: postL b xs else x :: postL b xs
theorem postL_len (b : Bool) : ∀ (d : List Int), (postL b d).length ≤ 2 * d.length
  | [] => by simp [postL]
  | x :: d => by
    have := postL_len b d
    simp only [postL]
    cases (x == 10 && b) <;> simp <;> omega
def WayT.both (w : WayT) : Bool := andI w.f 128 != 0 && andI w.f 256 != 0
theorem ok91 : codeOk CT Try.f91 (Try.f91.body.get rfl) = true := by kernel_rfl
abbrev ownS (n : Nat) : Value := .slice (some ⟨0, 0, none⟩) n n
theorem l91 (w : WayT) (d : List Int) (hl : d.length ≤ 1000) : ∀ (n i : Nat) (out : List Int), i + n = d.length → out.length ≤ 2 * i → Run CT 0 Try.f91 (atLoop Try.f91 0) [(0, wayP w), (1, intsV .u8 d), (5, ownS out.length), (6, .int .i64 i)] [outB .u8 out] (ownS (out ++ postL w.both (d.drop i)).length) [outB .u8 (out ++ postL w.both (d.drop i))] := by
  intro n
  induction n with
  | zero =>
    intro i out hi ho
    have hb := idx_ge (i := i) (n := d.length) (by omega)
    rw [show d.drop i = [] from List.drop_eq_nil_of_le (by omega), postL, List.append_nil]
    refine RunK.of_sRunK (K := K83) (K3 := Spec3.none) (O := []) (D := []) CT_ok rfl K83_ok Spec3OK.none (c := Try.f91.body.get rfl) rfl ok91 400 rfl ?_
    repeat' (first | refine condP_ff hb ?_ | with_reducible exact holds_none | with_reducible exact all_nil | with_reducible refine holds_some ?_ | with_reducible refine andP_intro ?_ ?_ | with_reducible refine condP_intro (fun h => ?_) (fun h => ?_) | with_reducible refine psP_intro ?_ | with_reducible refine all_append ?_ ?_ | with_reducible refine all_under (fun h => ?_) | with_reducible refine all_one ?_ | with_reducible refine all_cons ?_ ?_)
    all_goals first | exact (rfl : @Eq (List Value) _ _) | with_reducible exact le_goal (Nat.le_of_ble_eq_true rfl) | with_reducible exact fixd_goal rfl (Nat.le_of_ble_eq_true rfl) | (with_reducible refine hit_intro ?_ ?_ <;> (simp; done)) | exact (rfl : @Eq Value _ (Value.iface _ _)) | exact (rfl : @Eq Value _ (Value.agg _)) | (with_reducible refine veq_goal ?_; simp; done) | skip
    exact Leaf.same CT_ok rfl
  | succ n ih =>
    intro i out hi ho
    have hlt : i < d.length := by omega
    have hb := idx_lt hlt
    have h1 := ih (i + 1) (out ++ [13, d[i]]) (by omega) (by simp; omega)
    have h2 := ih (i + 1) (out ++ [d[i]]) (by omega) (by simp; omega)
    rw [List.append_assoc] at h1 h2
    rw [List.drop_eq_getElem_cons hlt]
    refine RunK.of_sRunK (K := K83) (K3 := Spec3.none) (O := []) (D := [(17, .int .u8 d[i]), (21, .bool w.both), (22, .bool (d[i] == 10 && w.both)), (30, .int .u8 d[i])]) CT_ok rfl K83_ok Spec3OK.none (c := Try.f91.body.get rfl) rfl ok91 400 rfl ?_
    repeat' (first | refine condP_tt hb ?_ | with_reducible exact holds_none | with_reducible exact all_nil | with_reducible refine holds_some ?_ | with_reducible refine andP_intro ?_ ?_ | with_reducible refine condP_intro (fun h => ?_) (fun h => ?_) | with_reducible refine psP_intro ?_ | with_reducible refine all_append ?_ ?_ | with_reducible refine all_under (fun h => ?_) | with_reducible refine all_one ?_ | with_reducible refine all_cons ?_ ?_)
    all_goals first | exact (rfl : @Eq (List Value) _ _) | with_reducible exact le_goal (Nat.le_of_ble_eq_true rfl) | with_reducible exact fixd_goal rfl (Nat.le_of_ble_eq_true rfl) | (with_reducible refine hit_intro ?_ ?_ <;> (simp; done)) | exact (rfl : @Eq Value _ (Value.iface _ _)) | exact (rfl : @Eq Value _ (Value.agg _)) | (with_reducible refine veq_goal ?_; simp; done) | skip
    all_goals first | exact in_range hlt | exact load_ints (by decide) (by simpa using hlt) | (rw [loaded (by decide)]; simp [hlt]; done) | skip
    all_goals first | (with_reducible refine app_goal ?_ ?_ ?_ <;> simp [outB] <;> omega) | skip
    all_goals try (simp [WayT.both]; done)
    · have e : [13, d[i]] ++ postL w.both (d.drop (i + 1)) = postL w.both (d[i] :: d.drop (i + 1)) := by simp only [postL, h]; rfl
      rw [e] at h1
      (refine RunK.norm0 rfl [4] (by decide) ?_ ?_ h1; focus (repeat' (first | with_reducible exact simT_nil | refine simT_cons rfl rfl ?_ ?_)) <;> (first | with_reducible rfl | with_reducible exact congrArg (Value.int .i64) (wrap_succ (by omega)) | exact (rfl : _ = Value.iface _ _) | exact (rfl : _ = Value.agg _) | exact (rfl : _ = Value.slice _ _ _) | exact (rfl : _ = Value.pointer _) | exact (rfl : Value.int .i64 0 = _) | (simp; done)))
      refine simB_leaf rfl rfl rfl rfl ?_ (outB_inert _ _) simB_nil
      simp [outB, List.take_of_length_le]
    · have e : [d[i]] ++ postL w.both (d.drop (i + 1)) = postL w.both (d[i] :: d.drop (i + 1)) := by simp only [postL, h]; rfl
      rw [e] at h2
      (refine RunK.norm0 rfl [2] (by decide) ?_ ?_ h2; focus (repeat' (first | with_reducible exact simT_nil | refine simT_cons rfl rfl ?_ ?_)) <;> (first | with_reducible rfl | with_reducible exact congrArg (Value.int .i64) (wrap_succ (by omega)) | exact (rfl : _ = Value.iface _ _) | exact (rfl : _ = Value.agg _) | exact (rfl : _ = Value.slice _ _ _) | exact (rfl : _ = Value.pointer _) | exact (rfl : Value.int .i64 0 = _) | (simp; done)))
      refine simB_leaf rfl rfl rfl rfl ?_ (outB_inert _ _) simB_nil
      simp [outB, List.take_of_length_le]
theorem o91 (w : WayT) (d : List Int) (hp : d.length ≤ 1000) : OwnFz CT 91 [wayP w, intsV .u8 d] (ownS (postL w.both d).length) [outB .u8 (postL w.both d)] := by
  have h1 := l91 w d hp d.length 0 [] (by omega) (by simp)
  refine Own.of_sRunK (K := K83) (K3 := Spec3.none) (O := []) (D := []) (j := 400) CT_ok rfl K83_ok Spec3OK.none (c := Try.f91.body.get rfl) Try.func91 rfl (Nat.le_of_ble_eq_true rfl) (by decide) rfl ok91 rfl ?_
  repeat' (first | with_reducible exact holds_none | with_reducible exact all_nil | with_reducible refine holds_some ?_ | with_reducible refine andP_intro ?_ ?_ | with_reducible refine condP_intro (fun h => ?_) (fun h => ?_) | with_reducible refine psP_intro ?_ | with_reducible refine all_append ?_ ?_ | with_reducible refine all_under (fun h => ?_) | with_reducible refine all_one ?_ | with_reducible refine all_cons ?_ ?_)
  all_goals first | exact (rfl : @Eq (List Value) _ _) | with_reducible exact le_goal (Nat.le_of_ble_eq_true rfl) | with_reducible exact fixd_goal rfl (Nat.le_of_ble_eq_true rfl) | (with_reducible refine hit_intro ?_ ?_ <;> (simp; done)) | exact (rfl : @Eq Value _ (Value.iface _ _)) | exact (rfl : @Eq Value _ (Value.agg _)) | (with_reducible refine veq_goal ?_; simp; done) | skip
  (refine RunK.norm0 rfl [0] (by decide) ?_ ?_ h1; focus (repeat' (first | with_reducible exact simT_nil | refine simT_cons rfl rfl ?_ ?_)) <;> (first | with_reducible rfl | with_reducible exact congrArg (Value.int .i64) (wrap_succ (by omega)) | exact (rfl : _ = Value.iface _ _) | exact (rfl : _ = Value.agg _) | exact (rfl : _ = Value.slice _ _ _) | exact (rfl : _ = Value.pointer _) | exact (rfl : Value.int .i64 0 = _) | (simp; done)))
  refine simB_leaf rfl rfl rfl rfl ?_ (outB_inert _ _) simB_nil
  rfl
theorem outB_own (k : IntKind) (l : List Int) : OwnB [outB k l] := ⟨rfl, rfl, by simp [outB, hard], trivial⟩
theorem fz_outB {f : FuncId} {xs : List Value} {k : IntKind} {l : List Int} (h : OwnFz CT f xs (ownS l.length) [outB k l]) : Fz CT f xs (intsV k l) := by
  have h1 : Fz CT f xs (Value.iface l.length (.agg (List.take (l.length * 1) (List.drop 0 (outB k l).cells)).toArray)) := Fz.of_own h rfl (outB_goal rfl)
  rw [outB_val] at h1
  exact h1
theorem c91 (w : WayT) (d : List Int) (hp : d.length ≤ 1000) : Fz CT 91 [wayP w, intsV .u8 d] (intsV .u8 (postL w.both d)) := fz_outB (o91 w d hp)
def K91 : Spec := Spec.add K83 91 (fam (fun (p : WayT × (List Int)) => [wayP p.1, intsV .u8 p.2]) (fun v => (wayD (v.getD 0 .nilFunc), intsD (v.getD 1 .nilFunc))) (fun (p : WayT × (List Int)) => p.2.length ≤ 1000) (fun (p : WayT × (List Int)) => intsV .u8 (postL p.1.both p.2)))
theorem K91_ok : SpecOK CT K91 := SpecOK.add K83_ok (fam_ok fun p hp => c91 p.1 p.2 hp)
abbrev bresV (r : Int × List Int) : Value := .agg #[.int .i64 r.1, intsV .u8 r.2]
def bresD (v : Value) : Int × List Int := (intOf (cellV v 0), intsD (cellV v 1))
@[simp] theorem bresD_agg (a b : Value) : bresD (.agg #[a, b]) = (intOf a, intsD b) := rfl
theorem ok41 : codeOk CT Try.f41 (Try.f41.body.get rfl) = true := by kernel_rfl
theorem c41 (w : WayT) (d : List Int) : Fz CT 41 [wayV w, intsV .u8 d] (bresV (bif pcode w d == 0 then (0, postL w.both d) else (pcode w d, []))) := by
  cases hc : pcode w d == 0 with
  | true =>
    have hd : d.length ≤ 1000 := by
      have hc : pcode w d = 0 := by simpa using hc
      unfold pcode at hc
      grind
    refine Fz.of_sRun (K := K91) (K3 := (Spec3.none.add 91 (conE CT 91 (fun _ m => .slice (some ⟨m.length, 0, none⟩) (postL w.both d).length (postL w.both d).length) (fun _ m => m ++ [outB .u8 (postL w.both d)])))) (O := [(4, 91)]) (D := [(7, .int .i64 (pcode w d))]) (k := 400) (H := []) CT_ok rfl K91_ok (by repeat' (first | exact Spec3OK.none | refine Spec3OK.add ?_ conE_ok)) (c := Try.f41.body.get rfl) Try.func41 rfl (Nat.le_of_ble_eq_true rfl) (by decide) rfl ok41 rfl ?_ ?_
    · repeat' (first | with_reducible exact holds_none | with_reducible exact all_nil | with_reducible refine holds_some ?_ | with_reducible refine andP_intro ?_ ?_ | with_reducible refine condP_intro (fun h => ?_) (fun h => ?_) | with_reducible refine psP_intro ?_ | with_reducible refine all_append ?_ ?_ | with_reducible refine all_under (fun h => ?_) | with_reducible refine all_one ?_ | with_reducible refine all_cons ?_ ?_)
      all_goals first | exact (rfl : @Eq (List Value) _ _) | with_reducible exact le_goal (Nat.le_of_ble_eq_true rfl) | with_reducible exact fixd_goal rfl (Nat.le_of_ble_eq_true rfl) | (with_reducible refine hit_intro ?_ ?_ <;> (simp; done)) | exact (rfl : @Eq Value _ (Value.iface _ _)) | exact (rfl : @Eq Value _ (Value.agg _)) | (with_reducible refine veq_goal ?_; simp; done) | skip
      · refine Con.lift rfl (o91 w d hd) (outB_own _ _) rfl rfl ?_ rfl
        repeat' (first | with_reducible exact holds_none | with_reducible exact all_nil | with_reducible refine holds_some ?_ | with_reducible refine andP_intro ?_ ?_ | with_reducible refine condP_intro (fun h => ?_) (fun h => ?_) | with_reducible refine psP_intro ?_ | with_reducible refine all_append ?_ ?_ | with_reducible refine all_under (fun h => ?_) | with_reducible refine all_one ?_ | with_reducible refine all_cons ?_ ?_)
        all_goals first | exact (rfl : @Eq (List Value) _ _) | with_reducible exact le_goal (Nat.le_of_ble_eq_true rfl) | with_reducible exact fixd_goal rfl (Nat.le_of_ble_eq_true rfl) | (with_reducible refine hit_intro ?_ ?_ <;> (simp; done)) | exact (rfl : @Eq Value _ (Value.iface _ _)) | exact (rfl : @Eq Value _ (Value.agg _)) | (with_reducible refine veq_goal ?_; simp; done) | skip
      · exact outB_goal rfl
    · have hc' : (pcode w d != 0) = false := by simp only [bne, hc]; rfl
      rw [hc']
      exact congrArg (fun v => Value.agg #[Value.int .i64 0, v]) (outB_val _ _)
  | false =>
    have hc' : (pcode w d != 0) = true := by simp only [bne, hc]; rfl
    refine Fz.of_sRun (K := K91) (K3 := (Spec3.none.add 91 (conE CT 91 (fun _ m => .slice none 0 0) (fun _ m => m)))) (O := [(4, 91)]) (D := [(7, .int .i64 (pcode w d))]) (k := 400) (H := []) CT_ok rfl K91_ok (by repeat' (first | exact Spec3OK.none | refine Spec3OK.add ?_ conE_ok)) (c := Try.f41.body.get rfl) Try.func41 rfl (Nat.le_of_ble_eq_true rfl) (by decide) rfl ok41 rfl ?_ ?_
    · repeat' (first | refine condP_tt hc' ?_ | with_reducible exact holds_none | with_reducible exact all_nil | with_reducible refine holds_some ?_ | with_reducible refine andP_intro ?_ ?_ | with_reducible refine condP_intro (fun h => ?_) (fun h => ?_) | with_reducible refine psP_intro ?_ | with_reducible refine all_append ?_ ?_ | with_reducible refine all_under (fun h => ?_) | with_reducible refine all_one ?_ | with_reducible refine all_cons ?_ ?_)
      all_goals first | exact (rfl : @Eq (List Value) _ _) | with_reducible exact le_goal (Nat.le_of_ble_eq_true rfl) | with_reducible exact fixd_goal rfl (Nat.le_of_ble_eq_true rfl) | (with_reducible refine hit_intro ?_ ?_ <;> (simp; done)) | exact (rfl : @Eq Value _ (Value.iface _ _)) | exact (rfl : @Eq Value _ (Value.agg _)) | (with_reducible refine veq_goal ?_; simp; done) | skip
    · rw [hc']
      rfl
def K41 : Spec := Spec.add K91 41 (fam (fun (p : WayT × (List Int)) => [wayV p.1, intsV .u8 p.2]) (fun v => (wayD (v.getD 0 .nilFunc), intsD (v.getD 1 .nilFunc))) (fun (p : WayT × (List Int)) => True) (fun (p : WayT × (List Int)) => bresV (bif pcode p.1 p.2 == 0 then (0, postL p.1.both p.2) else (pcode p.1 p.2, []))))
theorem K41_ok : SpecOK CT K41 := SpecOK.add K91_ok (fam_ok fun p hp => c41 p.1 p.2)

theorem ok92 : codeOk CT Try.f92 (Try.f92.body.get rfl) = true := by kernel_rfl
theorem l92 (w : WayT) (d : List Int) (hl : d.length ≤ 1000) : ∀ (n i : Nat) (out : List Int), i + n = d.length → out.length ≤ 2 * i → Run CT 0 Try.f92 (atLoop Try.f92 0) [(2, .pointer (some ⟨0, 0, none⟩)), (5, .slice (some ⟨1, 0, none⟩) out.length out.length), (9, intsV .u8 d), (10, .int .i64 d.length), (11, .int .i64 i)] [⟨(wayV w).cells.toList, 0, true, true⟩, outB .u8 out] (ownS (out ++ postL (andI w.f 384 == 384) (d.drop i)).length) [outB .u8 (out ++ postL (andI w.f 384 == 384) (d.drop i))] := by
  intro n
  induction n with
  | zero =>
    intro i out hi ho
    have hb := idx_ge (i := i) (n := d.length) (by omega)
    rw [show d.drop i = [] from List.drop_eq_nil_of_le (by omega), postL, List.append_nil]
    refine RunK.of_sRunK (K := K41) (K3 := Spec3.none) (O := []) (D := []) CT_ok rfl K41_ok Spec3OK.none (c := Try.f92.body.get rfl) rfl ok92 400 rfl ?_
    repeat' (first | refine condP_ff hb ?_ | with_reducible exact holds_none | with_reducible exact all_nil | with_reducible refine holds_some ?_ | with_reducible refine andP_intro ?_ ?_ | with_reducible refine condP_intro (fun h => ?_) (fun h => ?_) | with_reducible refine psP_intro ?_ | with_reducible refine all_append ?_ ?_ | with_reducible refine all_under (fun h => ?_) | with_reducible refine all_one ?_ | with_reducible refine all_cons ?_ ?_)
    all_goals first | exact (rfl : @Eq (List Value) _ _) | with_reducible exact le_goal (Nat.le_of_ble_eq_true rfl) | with_reducible exact fixd_goal rfl (Nat.le_of_ble_eq_true rfl) | (with_reducible refine hit_intro ?_ ?_ <;> (simp; done)) | exact (rfl : @Eq Value _ (Value.iface _ _)) | exact (rfl : @Eq Value _ (Value.agg _)) | (with_reducible refine veq_goal ?_; simp; done) | skip
    exact Leaf.post CT_ok rfl [1] (by decide) (simB_leaf rfl rfl rfl rfl rfl (outB_inert _ _) simB_nil) rfl rfl
  | succ n ih =>
    intro i out hi ho
    have hlt : i < d.length := by omega
    have hb := idx_lt hlt
    have h1 := ih (i + 1) (out ++ [13, d[i]]) (by omega) (by simp; omega)
    have h2 := ih (i + 1) (out ++ [d[i]]) (by omega) (by simp; omega)
    rw [List.append_assoc] at h1 h2
    rw [List.drop_eq_getElem_cons hlt]
    refine RunK.of_sRunK (K := K41) (K3 := Spec3.none) (O := []) (D := [(14, .int .u8 d[i]), (18, wayV w), (19, .bool (andI w.f 384 == 384)), (20, .bool (d[i] == 10 && (andI w.f 384 == 384)))]) CT_ok rfl K41_ok Spec3OK.none (c := Try.f92.body.get rfl) rfl ok92 400 rfl ?_
    repeat' (first | refine condP_tt hb ?_ | with_reducible exact holds_none | with_reducible exact all_nil | with_reducible refine holds_some ?_ | with_reducible refine andP_intro ?_ ?_ | with_reducible refine condP_intro (fun h => ?_) (fun h => ?_) | with_reducible refine psP_intro ?_ | with_reducible refine all_append ?_ ?_ | with_reducible refine all_under (fun h => ?_) | with_reducible refine all_one ?_ | with_reducible refine all_cons ?_ ?_)
    all_goals first | exact (rfl : @Eq (List Value) _ _) | with_reducible exact le_goal (Nat.le_of_ble_eq_true rfl) | with_reducible exact fixd_goal rfl (Nat.le_of_ble_eq_true rfl) | (with_reducible refine hit_intro ?_ ?_ <;> (simp; done)) | exact (rfl : @Eq Value _ (Value.iface _ _)) | exact (rfl : @Eq Value _ (Value.agg _)) | (with_reducible refine veq_goal ?_; simp; done) | skip
    all_goals first | exact in_range hlt | exact load_ints (by decide) (by simpa using hlt) | (rw [loaded (by decide)]; simp [hlt]; done) | skip
    all_goals first | (with_reducible refine app_goal ?_ ?_ ?_ <;> simp [outB] <;> omega) | skip
    · have e : [13, d[i]] ++ postL (andI w.f 384 == 384) (d.drop (i + 1)) = postL (andI w.f 384 == 384) (d[i] :: d.drop (i + 1)) := by simp only [postL, h]; rfl
      rw [e] at h1
      (refine RunK.norm0 rfl [0, 5] (by decide) ?_ ?_ h1; focus (repeat' (first | with_reducible exact simT_nil | refine simT_cons rfl rfl ?_ ?_)) <;> (first | with_reducible rfl | with_reducible exact congrArg (Value.int .i64) (wrap_succ (by omega)) | exact (rfl : _ = Value.iface _ _) | exact (rfl : _ = Value.agg _) | exact (rfl : _ = Value.slice _ _ _) | exact (rfl : _ = Value.pointer _) | exact (rfl : Value.int .i64 0 = _) | (simp; done)))
      refine simB_leaf rfl rfl rfl rfl rfl rfl (simB_leaf rfl rfl rfl rfl ?_ (outB_inert _ _) simB_nil)
      simp [outB, List.take_of_length_le]
    · have e : [d[i]] ++ postL (andI w.f 384 == 384) (d.drop (i + 1)) = postL (andI w.f 384 == 384) (d[i] :: d.drop (i + 1)) := by simp only [postL, h]; rfl
      rw [e] at h2
      (refine RunK.norm0 rfl [0, 3] (by decide) ?_ ?_ h2; focus (repeat' (first | with_reducible exact simT_nil | refine simT_cons rfl rfl ?_ ?_)) <;> (first | with_reducible rfl | with_reducible exact congrArg (Value.int .i64) (wrap_succ (by omega)) | exact (rfl : _ = Value.iface _ _) | exact (rfl : _ = Value.agg _) | exact (rfl : _ = Value.slice _ _ _) | exact (rfl : _ = Value.pointer _) | exact (rfl : Value.int .i64 0 = _) | (simp; done)))
      refine simB_leaf rfl rfl rfl rfl rfl rfl (simB_leaf rfl rfl rfl rfl ?_ (outB_inert _ _) simB_nil)
      simp [outB, List.take_of_length_le]
theorem o92 (w : WayT) (d : List Int) (hp : d.length ≤ 1000) : OwnFz CT 92 [wayV w, intsV .u8 d] (ownS (postL (andI w.f 384 == 384) d).length) [outB .u8 (postL (andI w.f 384 == 384) d)] := by
  have h1 := l92 w d hp d.length 0 [] (by omega) (by simp)
  refine Own.of_sRunK (K := K41) (K3 := Spec3.none) (O := []) (D := []) (j := 400) CT_ok rfl K41_ok Spec3OK.none (c := Try.f92.body.get rfl) Try.func92 rfl (Nat.le_of_ble_eq_true rfl) (by decide) rfl ok92 rfl ?_
  repeat' (first | with_reducible exact holds_none | with_reducible exact all_nil | with_reducible refine holds_some ?_ | with_reducible refine andP_intro ?_ ?_ | with_reducible refine condP_intro (fun h => ?_) (fun h => ?_) | with_reducible refine psP_intro ?_ | with_reducible refine all_append ?_ ?_ | with_reducible refine all_under (fun h => ?_) | with_reducible refine all_one ?_ | with_reducible refine all_cons ?_ ?_)
  all_goals first | exact (rfl : @Eq (List Value) _ _) | with_reducible exact le_goal (Nat.le_of_ble_eq_true rfl) | with_reducible exact fixd_goal rfl (Nat.le_of_ble_eq_true rfl) | (with_reducible refine hit_intro ?_ ?_ <;> (simp; done)) | exact (rfl : @Eq Value _ (Value.iface _ _)) | exact (rfl : @Eq Value _ (Value.agg _)) | (with_reducible refine veq_goal ?_; simp; done) | skip
  (refine RunK.norm0 rfl [0, 1] (by decide) ?_ ?_ h1; focus (repeat' (first | with_reducible exact simT_nil | refine simT_cons rfl rfl ?_ ?_)) <;> (first | with_reducible rfl | with_reducible exact congrArg (Value.int .i64) (wrap_succ (by omega)) | exact (rfl : _ = Value.iface _ _) | exact (rfl : _ = Value.agg _) | exact (rfl : _ = Value.slice _ _ _) | exact (rfl : _ = Value.pointer _) | exact (rfl : Value.int .i64 0 = _) | (simp; done)))
  exact simB_leaf rfl rfl rfl rfl rfl rfl (simB_leaf rfl rfl rfl rfl rfl (outB_inert _ _) simB_nil)
/-- The two bits at once. -/
theorem both_bits : ∀ n : Nat, n < 512 → (andI (n : Int) 128 != 0 && andI (n : Int) 256 != 0) = (andI (n : Int) 384 == 384) := by decide +kernel
theorem WayT.both_eq {w : WayT} (h : w.fault = 0) : (andI w.f 384 == 384) = w.both := by
  have h1 : 0 ≤ w.f ∧ w.f ≤ 511 := by
    unfold WayT.fault WayT.list at h
    simp only [faultL] at h
    cases hc : (decide (0 ≤ w.f) && decide (w.f ≤ bif (0 : Nat) == 0 then 511 else 255)) with
    | true => simp at hc; exact hc
    | false => rw [hc] at h; simp at h
  have := both_bits w.f.toNat (by omega)
  rw [show ((w.f.toNat : Nat) : Int) = w.f by omega] at this
  exact this.symm
theorem pcode_ok {w : WayT} {d : List Int} (h : pcode w d = 0) : w.fault = 0 ∧ d.length ≤ 1000 := by
  unfold pcode at h
  grind
theorem ok42 : codeOk CT Try.f42 (Try.f42.body.get rfl) = true := by kernel_rfl
theorem o42 (w : WayT) (d : List Int) (hc0 : pcode w d = 0) : OwnFz CT 42 [wayV w, intsV .u8 d] (.agg #[.int .i64 0, ownS (postL w.both d).length]) [outB .u8 (postL w.both d)] := by
  obtain ⟨hf, hd⟩ := pcode_ok hc0
  have ho := o92 w d hd
  rw [WayT.both_eq hf] at ho
  have hc' : (pcode w d != 0) = false := by rw [hc0]; rfl
  refine Own.of_sRunK (K := K41) (K3 := (Spec3.none.add 92 (conE CT 92 (fun _ m => .slice (some ⟨m.length, 0, none⟩) (postL w.both d).length (postL w.both d).length) (fun _ m => m ++ [outB .u8 (postL w.both d)])))) (O := [(4, 92)]) (D := [(6, wayV w), (7, .int .i64 w.fault), (9, .int .i64 (bif decide (d.length ≤ 1000) then 0 else 2)), (11, .int .i64 (pcode w d)), (16, wayV w)]) (j := 400) CT_ok rfl K41_ok (by repeat' (first | exact Spec3OK.none | refine Spec3OK.add ?_ conE_ok)) (c := Try.f42.body.get rfl) Try.func42 rfl (Nat.le_of_ble_eq_true rfl) (by decide) rfl ok42 rfl ?_
  repeat' (first | refine condP_ff hc' ?_ | with_reducible exact holds_none | with_reducible exact all_nil | with_reducible refine holds_some ?_ | with_reducible refine andP_intro ?_ ?_ | with_reducible refine condP_intro (fun h => ?_) (fun h => ?_) | with_reducible refine psP_intro ?_ | with_reducible refine all_append ?_ ?_ | with_reducible refine all_under (fun h => ?_) | with_reducible refine all_one ?_ | with_reducible refine all_cons ?_ ?_)
  all_goals first | exact (rfl : @Eq (List Value) _ _) | with_reducible exact le_goal (Nat.le_of_ble_eq_true rfl) | with_reducible exact fixd_goal rfl (Nat.le_of_ble_eq_true rfl) | (with_reducible refine hit_intro ?_ ?_ <;> (simp; done)) | exact (rfl : @Eq Value _ (Value.iface _ _)) | exact (rfl : @Eq Value _ (Value.agg _)) | (with_reducible refine veq_goal ?_; simp; done) | skip
  · simp [firstOf, pcode]
    grind
  · refine Con.lift rfl ho (outB_own _ _) rfl rfl ?_ rfl
    repeat' (first | with_reducible exact holds_none | with_reducible exact all_nil | with_reducible refine holds_some ?_ | with_reducible refine andP_intro ?_ ?_ | with_reducible refine condP_intro (fun h => ?_) (fun h => ?_) | with_reducible refine psP_intro ?_ | with_reducible refine all_append ?_ ?_ | with_reducible refine all_under (fun h => ?_) | with_reducible refine all_one ?_ | with_reducible refine all_cons ?_ ?_)
    all_goals first | exact (rfl : @Eq (List Value) _ _) | with_reducible exact le_goal (Nat.le_of_ble_eq_true rfl) | with_reducible exact fixd_goal rfl (Nat.le_of_ble_eq_true rfl) | (with_reducible refine hit_intro ?_ ?_ <;> (simp; done)) | exact (rfl : @Eq Value _ (Value.iface _ _)) | exact (rfl : @Eq Value _ (Value.agg _)) | (with_reducible refine veq_goal ?_; simp; done) | skip
  · exact Leaf.post CT_ok rfl [3] (by decide) (simB_leaf rfl rfl rfl rfl rfl (outB_inert _ _) simB_nil) rfl rfl
theorem n42 (w : WayT) (d : List Int) (hc0 : pcode w d ≠ 0) : OwnFz CT 42 [wayV w, intsV .u8 d] (.agg #[.int .i64 (pcode w d), .slice none 0 0]) [] := by
  have hc' : (pcode w d != 0) = true := by simpa using hc0
  refine Own.of_sRunK (K := K41) (K3 := (Spec3.none.add 92 (conE CT 92 (fun _ m => .slice none 0 0) (fun _ m => m)))) (O := [(4, 92)]) (D := [(6, wayV w), (7, .int .i64 w.fault), (9, .int .i64 (bif decide (d.length ≤ 1000) then 0 else 2)), (11, .int .i64 (pcode w d)), (16, wayV w)]) (j := 400) CT_ok rfl K41_ok (by repeat' (first | exact Spec3OK.none | refine Spec3OK.add ?_ conE_ok)) (c := Try.f42.body.get rfl) Try.func42 rfl (Nat.le_of_ble_eq_true rfl) (by decide) rfl ok42 rfl ?_
  repeat' (first | refine condP_tt hc' ?_ | with_reducible exact holds_none | with_reducible exact all_nil | with_reducible refine holds_some ?_ | with_reducible refine andP_intro ?_ ?_ | with_reducible refine condP_intro (fun h => ?_) (fun h => ?_) | with_reducible refine psP_intro ?_ | with_reducible refine all_append ?_ ?_ | with_reducible refine all_under (fun h => ?_) | with_reducible refine all_one ?_ | with_reducible refine all_cons ?_ ?_)
  all_goals first | exact (rfl : @Eq (List Value) _ _) | with_reducible exact le_goal (Nat.le_of_ble_eq_true rfl) | with_reducible exact fixd_goal rfl (Nat.le_of_ble_eq_true rfl) | (with_reducible refine hit_intro ?_ ?_ <;> (simp; done)) | exact (rfl : @Eq Value _ (Value.iface _ _)) | exact (rfl : @Eq Value _ (Value.agg _)) | (with_reducible refine veq_goal ?_; simp; done) | skip
  · simp [firstOf, pcode]
    try grind
  · exact Leaf.post CT_ok rfl [] (by decide) simB_nil rfl rfl

theorem ok30 : codeOk CT Try.f30 (Try.f30.body.get rfl) = true := by kernel_rfl
theorem c30 (a : Int × List Int) (b : Int × List Int) (hp : a.2.length ≤ 1048576 ∧ b.2.length ≤ 1048576) : Fz CT 30 [bresV a, bresV b] (.bool (a.1 == b.1 && a.2 == b.2)) := by
  refine Fz.of_sRun (K := K41) (K3 := Spec3.none) (O := []) (D := []) (k := 400) (H := []) CT_ok rfl K41_ok Spec3OK.none (c := Try.f30.body.get rfl) Try.func30 rfl (Nat.le_of_ble_eq_true rfl) (by decide) rfl ok30 rfl ?_ ?_
  · repeat' (first | with_reducible exact holds_none | with_reducible exact all_nil | with_reducible refine holds_some ?_ | with_reducible refine andP_intro ?_ ?_ | with_reducible refine condP_intro (fun h => ?_) (fun h => ?_) | with_reducible refine psP_intro ?_ | with_reducible refine all_append ?_ ?_ | with_reducible refine all_under (fun h => ?_) | with_reducible refine all_one ?_ | with_reducible refine all_cons ?_ ?_)
    all_goals first | exact (rfl : @Eq (List Value) _ _) | with_reducible exact le_goal (Nat.le_of_ble_eq_true rfl) | with_reducible exact fixd_goal rfl (Nat.le_of_ble_eq_true rfl) | (with_reducible refine hit_intro ?_ ?_ <;> (simp; done)) | exact (rfl : @Eq Value _ (Value.iface _ _)) | exact (rfl : @Eq Value _ (Value.agg _)) | (with_reducible refine veq_goal ?_; simp; done) | skip
    exact hit_of (a.2, b.2) rfl (by simp) hp
  · cases h1 : a.1 == b.1 <;> cases h2 : a.2 == b.2 <;> simp [bne, h1, h2]
def K30 : Spec := Spec.add K41 30 (fam (fun (p : (Int × List Int) × (Int × List Int)) => [bresV p.1, bresV p.2]) (fun v => (bresD (v.getD 0 .nilFunc), bresD (v.getD 1 .nilFunc))) (fun (p : (Int × List Int) × (Int × List Int)) => p.1.2.length ≤ 1048576 ∧ p.2.2.length ≤ 1048576) (fun (p : (Int × List Int) × (Int × List Int)) => .bool (p.1.1 == p.2.1 && p.1.2 == p.2.2)))
theorem K30_ok : SpecOK CT K30 := SpecOK.add K41_ok (fam_ok fun p hp => c30 p.1 p.2 hp)

theorem ok86 : codeOk CT Try.f86 (Try.f86.body.get rfl) = true := by kernel_rfl
def heldL : List Int → Int → Int
  | [], k => k
  | x :: xs, k => bif x != IntKind.u8.wrap k then -1 else heldL xs (k + 1)
def markL : Nat → Int → List Int
  | 0, _ => []
  | n + 1, k => IntKind.u8.wrap k :: markL n (k + 1)
@[simp] theorem markL_len : ∀ (n : Nat) (k : Int), (markL n k).length = n
  | 0, _ => rfl
  | n + 1, k => by simp [markL, markL_len n]
theorem held_mark : ∀ (n : Nat) (k : Int), heldL (markL n k) k = k + n
  | 0, k => by simp [heldL, markL]
  | n + 1, k => by
    simp only [markL, heldL, bne_self_eq_false, cond_false, held_mark n]
    push_cast
    omega
theorem l86 (d : List Int) : ∀ (n i : Nat) (k : Int), i + n = d.length → 0 ≤ k → k + n < 4611686018427387904 → i + n < 4611686018427387904 → RunF CT Try.f86 (atLoop Try.f86 0) [(0, intsV .u8 d), (1, .int .i64 k), (5, .int .i64 i)] [] (.int .i64 (heldL (d.drop i) k)) := by
  intro n
  induction n with
  | zero =>
    intro i k hi h0 h1 h2
    have hb := idx_ge (i := i) (n := d.length) (by omega)
    rw [show d.drop i = [] from List.drop_eq_nil_of_le (by omega), heldL]
    refine RunF.of_sRun (K := K30) (K3 := Spec3.none) (O := []) (D := []) (H := [.int .i64 k]) CT_ok rfl K30_ok Spec3OK.none (c := Try.f86.body.get rfl) rfl ok86 400 rfl ?_ ?_
    · repeat' (first | refine condP_ff hb ?_ | with_reducible exact holds_none | with_reducible exact all_nil | with_reducible refine holds_some ?_ | with_reducible refine andP_intro ?_ ?_ | with_reducible refine condP_intro (fun h => ?_) (fun h => ?_) | with_reducible refine psP_intro ?_ | with_reducible refine all_append ?_ ?_ | with_reducible refine all_under (fun h => ?_) | with_reducible refine all_one ?_ | with_reducible refine all_cons ?_ ?_)
      all_goals first | exact (rfl : @Eq (List Value) _ _) | with_reducible exact le_goal (Nat.le_of_ble_eq_true rfl) | with_reducible exact fixd_goal rfl (Nat.le_of_ble_eq_true rfl) | (with_reducible refine hit_intro ?_ ?_ <;> (simp; done)) | exact (rfl : @Eq Value _ (Value.iface _ _)) | exact (rfl : @Eq Value _ (Value.agg _)) | (with_reducible refine veq_goal ?_; simp; done) | skip
    · exact vint_ff hb rfl
  | succ n ih =>
    intro i k hi h0 h1 h2
    have hlt : i < d.length := by omega
    have hb := idx_lt hlt
    have hih := ih (i + 1) (k + 1) (by omega) (by omega) (by omega) (by omega)
    rw [List.drop_eq_getElem_cons hlt]
    refine RunF.of_sRun (K := K30) (K3 := Spec3.none) (O := []) (D := [(15, .int .u8 d[i]), (20, .int .i64 (k + 1))]) (H := [.int .i64 (heldL (d.drop (i + 1)) (k + 1))]) CT_ok rfl K30_ok Spec3OK.none (c := Try.f86.body.get rfl) rfl ok86 400 rfl ?_ ?_
    · repeat' (first | refine condP_tt hb ?_ | with_reducible exact holds_none | with_reducible exact all_nil | with_reducible refine holds_some ?_ | with_reducible refine andP_intro ?_ ?_ | with_reducible refine condP_intro (fun h => ?_) (fun h => ?_) | with_reducible refine psP_intro ?_ | with_reducible refine all_append ?_ ?_ | with_reducible refine all_under (fun h => ?_) | with_reducible refine all_one ?_ | with_reducible refine all_cons ?_ ?_)
      all_goals first | exact (rfl : @Eq (List Value) _ _) | with_reducible exact le_goal (Nat.le_of_ble_eq_true rfl) | with_reducible exact fixd_goal rfl (Nat.le_of_ble_eq_true rfl) | (with_reducible refine hit_intro ?_ ?_ <;> (simp; done)) | exact (rfl : @Eq Value _ (Value.iface _ _)) | exact (rfl : @Eq Value _ (Value.agg _)) | (with_reducible refine veq_goal ?_; simp; done) | skip
      all_goals first | exact in_range hlt | exact load_ints (by decide) (by simpa using hlt) | (rw [loaded (by decide)]; simp [hlt]; done) | skip
      · exact congrArg (Value.int .i64) (wrap64 (by omega) (by omega))
      · (refine RunF.norm0 rfl ?_ hih; (repeat' (first | with_reducible exact simT_nil | refine simT_cons rfl rfl ?_ ?_)); all_goals (try first | with_reducible rfl | with_reducible exact congrArg (Value.int .i64) (wrap_succ (by omega)) | exact (rfl : _ = Value.iface _ _) | exact (rfl : Value.int .i64 0 = _) | (simp; done)))
    · exact vint_tt hb rfl
theorem c86 (d : List Int) (k : Int) (hp : 0 ≤ k ∧ k + d.length < 4611686018427387904) : Fz CT 86 [intsV .u8 d, .int .i64 k] (.int .i64 (heldL d k)) := by
  have h1 := l86 d d.length 0 k (by omega) hp.1 hp.2 (by omega)
  refine Fz.of_sRun (K := K30) (K3 := Spec3.none) (O := []) (D := []) (k := 400) (H := [.int .i64 (heldL d k)]) CT_ok rfl K30_ok Spec3OK.none (c := Try.f86.body.get rfl) Try.func86 rfl (Nat.le_of_ble_eq_true rfl) (by decide) rfl ok86 rfl ?_ ?_
  · repeat' (first | with_reducible exact holds_none | with_reducible exact all_nil | with_reducible refine holds_some ?_ | with_reducible refine andP_intro ?_ ?_ | with_reducible refine condP_intro (fun h => ?_) (fun h => ?_) | with_reducible refine psP_intro ?_ | with_reducible refine all_append ?_ ?_ | with_reducible refine all_under (fun h => ?_) | with_reducible refine all_one ?_ | with_reducible refine all_cons ?_ ?_)
    all_goals first | exact (rfl : @Eq (List Value) _ _) | with_reducible exact le_goal (Nat.le_of_ble_eq_true rfl) | with_reducible exact fixd_goal rfl (Nat.le_of_ble_eq_true rfl) | (with_reducible refine hit_intro ?_ ?_ <;> (simp; done)) | exact (rfl : @Eq Value _ (Value.iface _ _)) | exact (rfl : @Eq Value _ (Value.agg _)) | (with_reducible refine veq_goal ?_; simp; done) | skip
    (refine RunF.norm0 rfl ?_ h1; (repeat' (first | with_reducible exact simT_nil | refine simT_cons rfl rfl ?_ ?_)); all_goals (try first | with_reducible rfl | with_reducible exact congrArg (Value.int .i64) (wrap_succ (by omega)) | exact (rfl : _ = Value.iface _ _) | exact (rfl : Value.int .i64 0 = _) | (simp; done)))
  · rfl
def K86 : Spec := Spec.add K30 86 (fam (fun (p : (List Int) × Int) => [intsV .u8 p.1, .int .i64 p.2]) (fun v => (intsD (v.getD 0 .nilFunc), intOf (v.getD 1 .nilFunc))) (fun (p : (List Int) × Int) => 0 ≤ p.2 ∧ p.2 + p.1.length < 4611686018427387904) (fun (p : (List Int) × Int) => .int .i64 (heldL p.1 p.2)))
theorem K86_ok : SpecOK CT K86 := SpecOK.add K30_ok (fam_ok fun p hp => c86 p.1 p.2 hp)
theorem heldL_ge : ∀ (d : List Int) (k : Int), 0 ≤ k → heldL d k = -1 ∨ 0 ≤ heldL d k
  | [], k, h => .inr h
  | x :: d, k, h => by
    unfold heldL
    cases x != IntKind.u8.wrap k
    · exact heldL_ge d (k + 1) (by omega)
    · exact .inl rfl
theorem ok33 : codeOk CT Try.f33 (Try.f33.body.get rfl) = true := by kernel_rfl
theorem c33 (r : Int × List Int) (k : Int) (hp : 0 ≤ k ∧ k + r.2.length < 4611686018427387904) : Fz CT 33 [bresV r, .int .i64 k] (.int .i64 (heldL r.2 k)) := by
  refine Fz.of_sRun (K := K86) (K3 := Spec3.none) (O := []) (D := []) (k := 400) (H := []) CT_ok rfl K86_ok Spec3OK.none (c := Try.f33.body.get rfl) Try.func33 rfl (Nat.le_of_ble_eq_true rfl) (by decide) rfl ok33 rfl ?_ ?_
  · repeat' (first | with_reducible exact holds_none | with_reducible exact all_nil | with_reducible refine holds_some ?_ | with_reducible refine andP_intro ?_ ?_ | with_reducible refine condP_intro (fun h => ?_) (fun h => ?_) | with_reducible refine psP_intro ?_ | with_reducible refine all_append ?_ ?_ | with_reducible refine all_under (fun h => ?_) | with_reducible refine all_one ?_ | with_reducible refine all_cons ?_ ?_)
    all_goals first | exact (rfl : @Eq (List Value) _ _) | with_reducible exact le_goal (Nat.le_of_ble_eq_true rfl) | with_reducible exact fixd_goal rfl (Nat.le_of_ble_eq_true rfl) | (with_reducible refine hit_intro ?_ ?_ <;> (simp; done)) | exact (rfl : @Eq Value _ (Value.iface _ _)) | exact (rfl : @Eq Value _ (Value.agg _)) | (with_reducible refine veq_goal ?_; simp; done) | skip
    exact hit_of (r.2, k) rfl (by simp) hp
  · simp
    rcases heldL_ge r.2 k hp.1 with h | h
    · rw [h]; rfl
    · rw [decide_eq_false (by omega)]; rfl
def K33 : Spec := Spec.add K86 33 (fam (fun (p : (Int × List Int) × Int) => [bresV p.1, .int .i64 p.2]) (fun v => (bresD (v.getD 0 .nilFunc), intOf (v.getD 1 .nilFunc))) (fun (p : (Int × List Int) × Int) => 0 ≤ p.2 ∧ p.2 + p.1.2.length < 4611686018427387904) (fun (p : (Int × List Int) × Int) => .int .i64 (heldL p.1.2 p.2)))
theorem K33_ok : SpecOK CT K33 := SpecOK.add K86_ok (fam_ok fun p hp => c33 p.1 p.2 hp)

theorem ok31 : codeOk CT Try.f31 (Try.f31.body.get rfl) = true := by kernel_rfl
theorem lay_set {c : List Int} {i : Nat} {x : Int} (h : i < c.length) : lay (c.map (Value.int .u8)) (0 + (i : Int).toNat * 1) [Value.int .u8 x] = (c.set i x).map (.int .u8) := by
  rw [Nat.zero_add, Nat.mul_one, Int.toNat_natCast, lay_eq _ _ _ (by simp; omega), List.map_set]
  simp [splice, List.set_eq_take_append_cons_drop, h]
theorem grow1 {b b' : Blk} (h1 : b'.es = b.es) (h2 : b'.own = b.own) (h3 : b'.live = b.live) : Grow [b] [b'] := Grow.set (m := [b]) (n := 0) (b := b) rfl h1 (by rw [h2]; exact id) (by rw [h3]; exact id)
theorem closed1 {b : Blk} (h : b.cells.all inert = true) : Closed [b] := by
  intro n c hn hl
  cases n with
  | zero => simp at hn; subst hn; exact .leaf h
  | succ n => simp at hn
theorem take_set_mark {c : List Int} {i : Nat} {x : Int} {l : List Int} (h : i < c.length) : (c.set i x).take (i + 1) ++ l = c.take i ++ x :: l := by
  rw [List.take_succ_eq_append_getElem (by simpa using h), List.take_set_of_le (by omega)]
  simp
theorem l31 (L : Nat) (k0 : Int) (hL : L < 4611686018427387904) (h00 : 0 ≤ k0) : ∀ (n i : Nat) (c : List Int) (k : Int), i + n = L → c.length = L → 0 ≤ k → k + n < 4611686018427387904 → Run CT 1 Try.f31 (atLoop Try.f31 0) [(0, .slice (some ⟨0, 0, none⟩) L L), (1, .int .i64 k), (5, .int .i64 i)] [⟨c.map (.int .u8), 1, true, true⟩] (.int .i64 (k + n)) [⟨(c.take i ++ markL n k).map (.int .u8), 1, true, true⟩] := by
  intro n
  induction n with
  | zero =>
    intro i c k hi hc hk hb0
    have hb := idx_ge (i := i) (n := L) (by omega)
    rw [show c.take i = c from List.take_of_length_le (by omega), markL, List.append_nil]
    refine RunK.of_sRunK (K := K33) (K3 := Spec3.none) (O := []) (D := []) CT_ok rfl K33_ok Spec3OK.none (c := Try.f31.body.get rfl) rfl ok31 400 rfl ?_
    repeat' (first | refine condP_ff hb ?_ | with_reducible exact holds_none | with_reducible exact all_nil | with_reducible refine holds_some ?_ | with_reducible refine andP_intro ?_ ?_ | with_reducible refine condP_intro (fun h => ?_) (fun h => ?_) | with_reducible refine psP_intro ?_ | with_reducible refine all_append ?_ ?_ | with_reducible refine all_under (fun h => ?_) | with_reducible refine all_one ?_ | with_reducible refine all_cons ?_ ?_)
    all_goals first | exact (rfl : @Eq (List Value) _ _) | with_reducible exact le_goal (Nat.le_of_ble_eq_true rfl) | with_reducible exact fixd_goal rfl (Nat.le_of_ble_eq_true rfl) | (with_reducible refine hit_intro ?_ ?_ <;> (simp; done)) | exact (rfl : @Eq Value _ (Value.iface _ _)) | exact (rfl : @Eq Value _ (Value.agg _)) | (with_reducible refine veq_goal ?_; simp; done) | skip
    rw [show k + ((0 : Nat) : Int) = k by omega]
    exact Leaf.same CT_ok rfl
  | succ n ih =>
    intro i c k hi hc hk hb0
    have hlt : i < L := by omega
    have hb := idx_lt hlt
    have hih := ih (i + 1) (c.set i (IntKind.u8.wrap k)) (k + 1) (by omega) (by simpa using hc) (by omega) (by omega)
    rw [take_set_mark (by omega), show k + 1 + (n : Int) = k + ((n + 1 : Nat) : Int) by omega] at hih
    refine RunK.of_sRunK (K := K33) (K3 := Spec3.none) (O := []) (D := [(18, .int .i64 (k + 1))]) CT_ok rfl K33_ok Spec3OK.none (c := Try.f31.body.get rfl) rfl ok31 400 rfl ?_
    repeat' (first | refine condP_tt hb ?_ | with_reducible exact holds_none | with_reducible exact all_nil | with_reducible refine holds_some ?_ | with_reducible refine andP_intro ?_ ?_ | with_reducible refine condP_intro (fun h => ?_) (fun h => ?_) | with_reducible refine psP_intro ?_ | with_reducible refine all_append ?_ ?_ | with_reducible refine all_under (fun h => ?_) | with_reducible refine all_one ?_ | with_reducible refine all_cons ?_ ?_)
    all_goals first | exact (rfl : @Eq (List Value) _ _) | with_reducible exact le_goal (Nat.le_of_ble_eq_true rfl) | with_reducible exact fixd_goal rfl (Nat.le_of_ble_eq_true rfl) | (with_reducible refine hit_intro ?_ ?_ <;> (simp; done)) | exact (rfl : @Eq Value _ (Value.iface _ _)) | exact (rfl : @Eq Value _ (Value.agg _)) | (with_reducible refine veq_goal ?_; simp; done) | skip
    · exact in_range hlt
    · show 0 + (i : Int).toNat * 1 + 1 ≤ (c.map (Value.int .u8)).length
      simp
      omega
    · exact congrArg (Value.int .i64) (wrap64 (by omega) (by omega))
    · (refine RunK.keep ?_ ?_ hih; focus (repeat' (first | with_reducible exact look_nil | refine look_cons rfl ?_ ?_)) <;> (first | with_reducible rfl | with_reducible exact congrArg (Value.int .i64) (wrap_succ (by omega)) | exact (rfl : _ = Value.iface _ _) | exact (rfl : _ = Value.slice _ _ _) | exact (rfl : Value.int .i64 0 = _) | (simp; done)))
      exact congrArg (fun l : List Value => [(⟨l, 1, true, true⟩ : Blk)]) (lay_set (by omega))
/-- The slice in its own block, marked. -/
theorem m31 (c : List Int) (k : Int) (hk : 0 ≤ k) (hb : k + c.length < 4611686018427387904) : Con CT 31 [.slice (some ⟨0, 0, none⟩) c.length c.length, .int .i64 k] [⟨c.map (.int .u8), 1, true, true⟩] (.int .i64 (k + c.length)) [⟨(markL c.length k).map (.int .u8), 1, true, true⟩] := by
  have h1 := l31 c.length k (by omega) hk c.length 0 c k (by omega) rfl hk hb
  refine Con.of_sRunK (K := K33) (K3 := Spec3.none) (O := []) (D := []) (j := 400) CT_ok rfl K33_ok Spec3OK.none (c := Try.f31.body.get rfl) Try.func31 rfl (Nat.le_of_ble_eq_true rfl) (by decide) ?_ ?_ rfl ok31 rfl ?_
  · exact grow1 rfl rfl rfl
  · exact closed1 (all_inert_int _ _)
  · repeat' (first | with_reducible exact holds_none | with_reducible exact all_nil | with_reducible refine holds_some ?_ | with_reducible refine andP_intro ?_ ?_ | with_reducible refine condP_intro (fun h => ?_) (fun h => ?_) | with_reducible refine psP_intro ?_ | with_reducible refine all_append ?_ ?_ | with_reducible refine all_under (fun h => ?_) | with_reducible refine all_one ?_ | with_reducible refine all_cons ?_ ?_)
    all_goals first | exact (rfl : @Eq (List Value) _ _) | with_reducible exact le_goal (Nat.le_of_ble_eq_true rfl) | with_reducible exact fixd_goal rfl (Nat.le_of_ble_eq_true rfl) | (with_reducible refine hit_intro ?_ ?_ <;> (simp; done)) | exact (rfl : @Eq Value _ (Value.iface _ _)) | exact (rfl : @Eq Value _ (Value.agg _)) | (with_reducible refine veq_goal ?_; simp; done) | skip
    (refine RunK.keep ?_ ?_ h1; focus (repeat' (first | with_reducible exact look_nil | refine look_cons rfl ?_ ?_)) <;> (first | with_reducible rfl | with_reducible exact congrArg (Value.int .i64) (wrap_succ (by omega)) | exact (rfl : _ = Value.iface _ _) | exact (rfl : _ = Value.slice _ _ _) | exact (rfl : Value.int .i64 0 = _) | (simp; done)))
    rfl
theorem m31' (c : List Int) (k : Int) (m : Mem) (n : Nat) (hk : 0 ≤ k) (hb : k + c.length < 4611686018427387904) (hm : m[n]? = some (outB .u8 c)) : Con CT 31 [.slice (some ⟨n, 0, none⟩) c.length c.length, .int .i64 k] m (.int .i64 (k + c.length)) (m.set n (outB .u8 (markL c.length k))) := by
  refine Con.frame1 rfl (m31 c k hk hb) hm ?_ (all_inert_int _ _) (all_inert_int _ _) ?_ (Real.slice (i := 0) rfl)
  · exact renL_sound (k := 64) rfl
  · exact renV_sound (k := 64) rfl
theorem c31 (d : List Int) (k : Int) (hp : d = []) : Fz CT 31 [intsV .u8 d, .int .i64 k] (.int .i64 k) := by
  subst hp
  have h1 : RunF CT Try.f31 (atLoop Try.f31 0) [(0, intsV .u8 []), (1, .int .i64 k), (5, .int .i64 0)] [] (.int .i64 k) := by
    refine RunF.of_sRun (K := K33) (K3 := Spec3.none) (O := []) (D := [(100009, .bool false)]) (H := []) CT_ok rfl K33_ok Spec3OK.none (c := Try.f31.body.get rfl) rfl ok31 400 rfl ?_ ?_
    · repeat' (first | with_reducible exact holds_none | with_reducible exact all_nil | with_reducible refine holds_some ?_ | with_reducible refine andP_intro ?_ ?_ | with_reducible refine condP_intro (fun h => ?_) (fun h => ?_) | with_reducible refine psP_intro ?_ | with_reducible refine all_append ?_ ?_ | with_reducible refine all_under (fun h => ?_) | with_reducible refine all_one ?_ | with_reducible refine all_cons ?_ ?_)
      all_goals first | exact (rfl : @Eq (List Value) _ _) | with_reducible exact le_goal (Nat.le_of_ble_eq_true rfl) | with_reducible exact fixd_goal rfl (Nat.le_of_ble_eq_true rfl) | (with_reducible refine hit_intro ?_ ?_ <;> (simp; done)) | exact (rfl : @Eq Value _ (Value.iface _ _)) | exact (rfl : @Eq Value _ (Value.agg _)) | (with_reducible refine veq_goal ?_; simp; done) | skip
      rfl
    · rfl
  refine Fz.of_sRun (K := K33) (K3 := Spec3.none) (O := []) (D := []) (k := 400) (H := [.int .i64 k]) CT_ok rfl K33_ok Spec3OK.none (c := Try.f31.body.get rfl) Try.func31 rfl (Nat.le_of_ble_eq_true rfl) (by decide) rfl ok31 rfl ?_ ?_
  · repeat' (first | with_reducible exact holds_none | with_reducible exact all_nil | with_reducible refine holds_some ?_ | with_reducible refine andP_intro ?_ ?_ | with_reducible refine condP_intro (fun h => ?_) (fun h => ?_) | with_reducible refine psP_intro ?_ | with_reducible refine all_append ?_ ?_ | with_reducible refine all_under (fun h => ?_) | with_reducible refine all_one ?_ | with_reducible refine all_cons ?_ ?_)
    all_goals first | exact (rfl : @Eq (List Value) _ _) | with_reducible exact le_goal (Nat.le_of_ble_eq_true rfl) | with_reducible exact fixd_goal rfl (Nat.le_of_ble_eq_true rfl) | (with_reducible refine hit_intro ?_ ?_ <;> (simp; done)) | exact (rfl : @Eq Value _ (Value.iface _ _)) | exact (rfl : @Eq Value _ (Value.agg _)) | (with_reducible refine veq_goal ?_; simp; done) | skip
    (refine RunF.norm0 rfl ?_ h1; (repeat' (first | with_reducible exact simT_nil | refine simT_cons rfl rfl ?_ ?_)); all_goals (try first | with_reducible rfl | with_reducible exact congrArg (Value.int .i64) (wrap_succ (by omega)) | exact (rfl : _ = Value.iface _ _) | exact (rfl : Value.int .i64 0 = _) | (simp; done)))
  · rfl
def K31 : Spec := Spec.add K33 31 (fam (fun (p : (List Int) × Int) => [intsV .u8 p.1, .int .i64 p.2]) (fun v => (intsD (v.getD 0 .nilFunc), intOf (v.getD 1 .nilFunc))) (fun (p : (List Int) × Int) => p.1 = []) (fun (p : (List Int) × Int) => .int .i64 p.2))
theorem K31_ok : SpecOK CT K31 := SpecOK.add K33_ok (fam_ok fun p hp => c31 p.1 p.2 hp)
theorem ok32 : codeOk CT Try.f32 (Try.f32.body.get rfl) = true := by kernel_rfl
theorem m32 (r : Int) (c : List Int) (k : Int) (hk : 0 ≤ k) (hb : k + c.length < 4611686018427387904) : Con CT 32 [.agg #[.int .i64 r, .slice (some ⟨0, 0, none⟩) c.length c.length], .int .i64 k] [outB .u8 c] (.int .i64 (k + c.length)) [outB .u8 (markL c.length k)] := by
  refine Con.of_sRunK (K := K31) (K3 := (Spec3.none.add 31 (conE CT 31 (fun _ m => .int .i64 (k + c.length)) (fun _ m => m.set 0 (outB .u8 (markL c.length k)))))) (O := [(1, 31)]) (D := []) (j := 400) CT_ok rfl K31_ok (by repeat' (first | exact Spec3OK.none | refine Spec3OK.add ?_ conE_ok)) (c := Try.f32.body.get rfl) Try.func32 rfl (Nat.le_of_ble_eq_true rfl) (by decide) ?_ ?_ rfl ok32 rfl ?_
  · exact grow1 rfl rfl rfl
  · exact closed1 (all_inert_int _ _)
  · repeat' (first | with_reducible exact holds_none | with_reducible exact all_nil | with_reducible refine holds_some ?_ | with_reducible refine andP_intro ?_ ?_ | with_reducible refine condP_intro (fun h => ?_) (fun h => ?_) | with_reducible refine psP_intro ?_ | with_reducible refine all_append ?_ ?_ | with_reducible refine all_under (fun h => ?_) | with_reducible refine all_one ?_ | with_reducible refine all_cons ?_ ?_)
    all_goals first | exact (rfl : @Eq (List Value) _ _) | with_reducible exact le_goal (Nat.le_of_ble_eq_true rfl) | with_reducible exact fixd_goal rfl (Nat.le_of_ble_eq_true rfl) | (with_reducible refine hit_intro ?_ ?_ <;> (simp; done)) | exact (rfl : @Eq Value _ (Value.iface _ _)) | exact (rfl : @Eq Value _ (Value.agg _)) | (with_reducible refine veq_goal ?_; simp; done) | skip
    · exact m31' c k _ 0 hk hb rfl
    · exact Leaf.post1 CT_ok rfl rfl (all_inert_int _ _) rfl
theorem m32' (r : Int) (c : List Int) (k : Int) (m : Mem) (n : Nat) (hk : 0 ≤ k) (hb : k + c.length < 4611686018427387904) (hm : m[n]? = some (outB .u8 c)) : Con CT 32 [.agg #[.int .i64 r, .slice (some ⟨n, 0, none⟩) c.length c.length], .int .i64 k] m (.int .i64 (k + c.length)) (m.set n (outB .u8 (markL c.length k))) := by
  refine Con.frame1 rfl (m32 r c k hk hb) hm ?_ (all_inert_int _ _) (all_inert_int _ _) ?_ (Real.field (i := 0) (j := 1) rfl rfl)
  · exact renL_sound (k := 64) rfl
  · exact renV_sound (k := 64) rfl
theorem c32 (r : Int × List Int) (k : Int) (hp : r.2 = []) : Fz CT 32 [bresV r, .int .i64 k] (.int .i64 k) := by
  refine Fz.of_sRun (K := K31) (K3 := Spec3.none) (O := []) (D := []) (k := 400) (H := []) CT_ok rfl K31_ok Spec3OK.none (c := Try.f32.body.get rfl) Try.func32 rfl (Nat.le_of_ble_eq_true rfl) (by decide) rfl ok32 rfl ?_ ?_
  · repeat' (first | with_reducible exact holds_none | with_reducible exact all_nil | with_reducible refine holds_some ?_ | with_reducible refine andP_intro ?_ ?_ | with_reducible refine condP_intro (fun h => ?_) (fun h => ?_) | with_reducible refine psP_intro ?_ | with_reducible refine all_append ?_ ?_ | with_reducible refine all_under (fun h => ?_) | with_reducible refine all_one ?_ | with_reducible refine all_cons ?_ ?_)
    all_goals first | exact (rfl : @Eq (List Value) _ _) | with_reducible exact le_goal (Nat.le_of_ble_eq_true rfl) | with_reducible exact fixd_goal rfl (Nat.le_of_ble_eq_true rfl) | (with_reducible refine hit_intro ?_ ?_ <;> (simp; done)) | exact (rfl : @Eq Value _ (Value.iface _ _)) | exact (rfl : @Eq Value _ (Value.agg _)) | (with_reducible refine veq_goal ?_; simp; done) | skip
    exact hit_of (r.2, k) rfl (by simp) hp
  · rfl
def K32 : Spec := Spec.add K31 32 (fam (fun (p : (Int × List Int) × Int) => [bresV p.1, .int .i64 p.2]) (fun v => (bresD (v.getD 0 .nilFunc), intOf (v.getD 1 .nilFunc))) (fun (p : (Int × List Int) × Int) => p.1.2 = []) (fun (p : (Int × List Int) × Int) => .int .i64 p.2))
theorem K32_ok : SpecOK CT K32 := SpecOK.add K31_ok (fam_ok fun p hp => c32 p.1 p.2 hp)

theorem fillB_full {d : List Int} : fillB (d.map (.int .u8)) d.length (.int .u8 0) = outB .u8 d := by
  simp only [fillB, outB]
  rw [List.take_of_length_le (by simp)]
  simp
theorem lo16 (d : List Int) (hl : d.length ≤ 1048576) : ∀ (n i : Nat), i + n = d.length → Run CT 0 Try.f16 (atLoop Try.f16 0) [(0, intsV .u8 d), (3, ownS d.length), (4, .int .i64 i)] [fillB (d.map (.int .u8)) i (.int .u8 0)] (ownS d.length) [outB .u8 d] := by
  intro n
  induction n with
  | zero =>
    intro i hi
    have hb := idx_ge (i := i) (n := d.length) (by omega)
    obtain rfl : i = d.length := by omega
    rw [fillB_full]
    refine RunK.of_sRunK (K := K32) (K3 := Spec3.none) (O := []) (D := [(100011, .bool false)]) CT_ok rfl K32_ok Spec3OK.none (c := Try.f16.body.get rfl) rfl ok16 400 rfl ?_
    repeat' (first | with_reducible exact holds_none | with_reducible exact all_nil | with_reducible refine holds_some ?_ | with_reducible refine andP_intro ?_ ?_ | with_reducible refine condP_intro (fun h => ?_) (fun h => ?_) | with_reducible refine psP_intro ?_ | with_reducible refine all_append ?_ ?_ | with_reducible refine all_under (fun h => ?_) | with_reducible refine all_one ?_ | with_reducible refine all_cons ?_ ?_)
    · exact hb
    · exact Leaf.same CT_ok rfl
  | succ n ih =>
    intro i hi
    have hlt : i < d.length := by omega
    have hb := idx_lt hlt
    refine RunK.of_sRunK (K := K32) (K3 := Spec3.none) (O := []) (D := [(19, .int .u8 d[i]), (100011, .bool true)]) CT_ok rfl K32_ok Spec3OK.none (c := Try.f16.body.get rfl) rfl ok16 400 rfl ?_
    repeat' (first | with_reducible exact holds_none | with_reducible exact all_nil | with_reducible refine holds_some ?_ | with_reducible refine andP_intro ?_ ?_ | with_reducible refine condP_intro (fun h => ?_) (fun h => ?_) | with_reducible refine psP_intro ?_ | with_reducible refine all_append ?_ ?_ | with_reducible refine all_under (fun h => ?_) | with_reducible refine all_one ?_ | with_reducible refine all_cons ?_ ?_)
    all_goals first | exact (rfl : @Eq (List Value) _ _) | with_reducible exact le_goal (Nat.le_of_ble_eq_true rfl) | with_reducible exact fixd_goal rfl (Nat.le_of_ble_eq_true rfl) | (with_reducible refine hit_intro ?_ ?_ <;> (simp; done)) | exact (rfl : @Eq Value _ (Value.iface _ _)) | exact (rfl : @Eq Value _ (Value.agg _)) | (with_reducible refine veq_goal ?_; simp; done) | skip
    all_goals first | exact in_range hlt | exact load_ints (by decide) (by simpa using hlt) | (rw [loaded (by decide)]; simp [hlt]; done) | skip
    · exact hb
    · have := fillB_len (l := d.map (.int .u8)) (z := .int .u8 0) (i := i) (by simp; omega)
      show 0 + i * 1 + 1 ≤ (fillB (d.map (.int .u8)) i (.int .u8 0)).cells.length
      rw [this]
      simp
      omega
    · have hih := ih (i + 1) (by omega)
      (refine RunK.norm0 rfl [0] (by decide) ?_ ?_ hih; focus (repeat' (first | with_reducible exact simT_nil | refine simT_cons rfl rfl ?_ ?_)) <;> (first | with_reducible rfl | with_reducible exact congrArg (Value.int .i64) (wrap_succ (by omega)) | exact (rfl : _ = Value.iface _ _) | exact (rfl : _ = Value.agg _) | exact (rfl : _ = Value.slice _ _ _) | exact (rfl : _ = Value.pointer _) | exact (rfl : Value.int .i64 0 = _) | (simp; done)))
      refine simB_leaf rfl rfl rfl rfl ?_ (fillB_inert (all_inert_int _ _) rfl) simB_nil
      exact fillB_lay (l := d.map (.int .u8)) (by simpa using hlt) (by simp)
theorem o16 (d : List Int) (hp : d.length ≤ 1048576) : OwnFz CT 16 [intsV .u8 d] (ownS d.length) [outB .u8 d] := by
  have h1 := lo16 d hp d.length 0 (by omega)
  refine Own.of_sRunK (K := K32) (K3 := Spec3.none) (O := []) (D := []) (j := 400) CT_ok rfl K32_ok Spec3OK.none (c := Try.f16.body.get rfl) Try.func16 rfl (Nat.le_of_ble_eq_true rfl) (by decide) rfl ok16 rfl ?_
  repeat' (first | with_reducible exact holds_none | with_reducible exact all_nil | with_reducible refine holds_some ?_ | with_reducible refine andP_intro ?_ ?_ | with_reducible refine condP_intro (fun h => ?_) (fun h => ?_) | with_reducible refine psP_intro ?_ | with_reducible refine all_append ?_ ?_ | with_reducible refine all_under (fun h => ?_) | with_reducible refine all_one ?_ | with_reducible refine all_cons ?_ ?_)
  all_goals first | exact (rfl : @Eq (List Value) _ _) | with_reducible exact le_goal (Nat.le_of_ble_eq_true rfl) | with_reducible exact fixd_goal rfl (Nat.le_of_ble_eq_true rfl) | (with_reducible refine hit_intro ?_ ?_ <;> (simp; done)) | exact (rfl : @Eq Value _ (Value.iface _ _)) | exact (rfl : @Eq Value _ (Value.agg _)) | (with_reducible refine veq_goal ?_; simp; done) | skip
  · refine ⟨by omega, Int.le_refl _, ?_, ?_⟩ <;> (try simp) <;> omega
  · (refine RunK.norm0 rfl [0] (by decide) ?_ ?_ h1; focus (repeat' (first | with_reducible exact simT_nil | refine simT_cons rfl rfl ?_ ?_)) <;> (first | with_reducible rfl | with_reducible exact congrArg (Value.int .i64) (wrap_succ (by omega)) | exact (rfl : _ = Value.iface _ _) | exact (rfl : _ = Value.agg _) | exact (rfl : _ = Value.slice _ _ _) | exact (rfl : _ = Value.pointer _) | exact (rfl : Value.int .i64 0 = _) | (simp; done)))
    refine simB_leaf rfl rfl rfl rfl ?_ (fillB_inert (all_inert_int _ _) rfl) simB_nil
    exact fillB_new _ _ _ (by simp)
theorem c42 (w : WayT) (d : List Int) : Fz CT 42 [wayV w, intsV .u8 d] (bresV (bif pcode w d == 0 then (0, postL w.both d) else (pcode w d, []))) := by
  cases hc : pcode w d == 0 with
  | true =>
    have h := o42 w d (by simpa using hc)
    have h1 : Fz CT 42 [wayV w, intsV .u8 d] (.agg #[.int .i64 0, Value.iface (postL w.both d).length (.agg (List.take ((postL w.both d).length * 1) (List.drop 0 (outB .u8 (postL w.both d)).cells)).toArray)]) := by
      refine Fz.of_own h rfl ?_
      repeat' (first | with_reducible exact holds_none | with_reducible exact all_nil | with_reducible refine holds_some ?_ | with_reducible refine andP_intro ?_ ?_ | with_reducible refine condP_intro (fun h => ?_) (fun h => ?_) | with_reducible refine psP_intro ?_ | with_reducible refine all_append ?_ ?_ | with_reducible refine all_under (fun h => ?_) | with_reducible refine all_one ?_ | with_reducible refine all_cons ?_ ?_)
      exact outB_goal rfl
    rw [outB_val] at h1
    exact h1
  | false => exact Fz.of_own (n42 w d (by simpa using hc)) rfl all_nil
def K42 : Spec := Spec.add K32 42 (fam (fun (p : WayT × (List Int)) => [wayV p.1, intsV .u8 p.2]) (fun v => (wayD (v.getD 0 .nilFunc), intsD (v.getD 1 .nilFunc))) (fun (p : WayT × (List Int)) => True) (fun (p : WayT × (List Int)) => bresV (bif pcode p.1 p.2 == 0 then (0, postL p.1.both p.2) else (pcode p.1 p.2, []))))
theorem K42_ok : SpecOK CT K42 := SpecOK.add K32_ok (fam_ok fun p hp => c42 p.1 p.2)

theorem ok9 : codeOk CT Try.f9 (Try.f9.body.get rfl) = true := by kernel_rfl
abbrev mWay (w : WayT) : Blk := ⟨(wayV w).cells.toList, 0, true, true⟩
abbrev mRes (r : Int × List Int) : Blk := ⟨[.int .i64 r.1, intsV .u8 r.2], 0, true, true⟩
abbrev mOwn (r : Int) (n k : Nat) : Blk := ⟨[.int .i64 r, .slice (some ⟨k, 0, none⟩) n n], 0, true, true⟩
@[simp] theorem take_map_len (l : List Int) (f : Int → Value) : List.take l.length (List.map f l) = List.map f l := List.take_of_length_le (by simp)
@[simp] theorem take_mark_len (n : Nat) (k : Int) (f : Int → Value) : List.take n (List.map f (markL n k)) = List.map f (markL n k) := List.take_of_length_le (by simp)
abbrev mNil (r : Int) : Blk := ⟨[.int .i64 r, .slice none 0 0], 0, true, true⟩
abbrev ownAt (k n : Nat) : Value := .slice (some ⟨k, 0, none⟩) n n
theorem outB_get {k : IntKind} {l : List Int} {n : Nat} (hn : n = l.length) : List.take (n * (outB k l).es) (List.drop 0 (outB k l).cells) = l.map (.int k) := by
  subst hn
  simp only [outB, Nat.mul_one, List.drop_zero]
  exact List.take_of_length_le (by simp)
theorem law9 (w : WayT) (d : List Int)  : Fz CT 9 [wayV w, intsV .u8 d] (.bool true) := by
  cases hb : decide ((d.length : Int) > 1048576) with
  | true =>
    refine Fz.of_sRun (K := K42) (K3 := Spec3.none) (O := []) (D := [(100014, .bool true)]) (k := 400) (H := []) CT_ok rfl K42_ok Spec3OK.none (c := Try.f9.body.get rfl) Try.func9 rfl (Nat.le_of_ble_eq_true rfl) (by decide) rfl ok9 rfl ?_ ?_
    · repeat' (first | with_reducible exact holds_none | with_reducible exact all_nil | with_reducible refine holds_some ?_ | with_reducible refine andP_intro ?_ ?_ | with_reducible refine condP_intro (fun h => ?_) (fun h => ?_) | with_reducible refine psP_intro ?_ | with_reducible refine all_append ?_ ?_ | with_reducible refine all_under (fun h => ?_) | with_reducible refine all_one ?_ | with_reducible refine all_cons ?_ ?_)
      all_goals first | exact (rfl : @Eq (List Value) _ _) | with_reducible exact le_goal (Nat.le_of_ble_eq_true rfl) | with_reducible exact fixd_goal rfl (Nat.le_of_ble_eq_true rfl) | (with_reducible refine hit_intro ?_ ?_ <;> (simp; done)) | exact (rfl : @Eq Value _ (Value.iface _ _)) | exact (rfl : @Eq Value _ (Value.agg _)) | (with_reducible refine veq_goal ?_; simp; done) | skip
      exact hb
    · rfl
  | false =>
    have hd : d.length ≤ 1048576 := by simp at hb; omega
    cases hc : pcode w d == 0 with
    | true =>
      have hc0 : pcode w d = 0 := by simpa using hc
      obtain ⟨hf, hd1⟩ := pcode_ok hc0
      have hlen := postL_len w.both d
      have hl32 : (postL w.both d).length ≤ 1048576 := by omega
      have q16 : Con CT 16 [intsV .u8 d] [mWay w, mRes (0, postL w.both d)] (ownAt 2 d.length) [mWay w, mRes (0, postL w.both d), outB .u8 d] := by
        refine Con.lift (m := [mWay w, mRes (0, postL w.both d)]) rfl (o16 d hd) (outB_own _ _) rfl rfl ?_ rfl
        repeat' (first | with_reducible exact holds_none | with_reducible exact all_nil | with_reducible refine holds_some ?_ | with_reducible refine andP_intro ?_ ?_ | with_reducible refine condP_intro (fun h => ?_) (fun h => ?_) | with_reducible refine psP_intro ?_ | with_reducible refine all_append ?_ ?_ | with_reducible refine all_under (fun h => ?_) | with_reducible refine all_one ?_ | with_reducible refine all_cons ?_ ?_)
        all_goals first | exact (rfl : @Eq (List Value) _ _) | with_reducible exact le_goal (Nat.le_of_ble_eq_true rfl) | with_reducible exact fixd_goal rfl (Nat.le_of_ble_eq_true rfl) | (with_reducible refine hit_intro ?_ ?_ <;> (simp; done)) | exact (rfl : @Eq Value _ (Value.iface _ _)) | exact (rfl : @Eq Value _ (Value.agg _)) | (with_reducible refine veq_goal ?_; simp; done) | skip
      have q42 : Con CT 42 [wayV w, ownAt 2 d.length] [mWay w, mRes (0, postL w.both d), outB .u8 d] (.agg #[.int .i64 0, ownAt 3 (postL w.both d).length]) [mWay w, mRes (0, postL w.both d), outB .u8 d, outB .u8 (postL w.both d)] := by
        refine Con.lift rfl (o42 w d hc0) (outB_own _ _) rfl rfl ?_ (by simp [outB])
        repeat' (first | with_reducible exact holds_none | with_reducible exact all_nil | with_reducible refine holds_some ?_ | with_reducible refine andP_intro ?_ ?_ | with_reducible refine condP_intro (fun h => ?_) (fun h => ?_) | with_reducible refine psP_intro ?_ | with_reducible refine all_append ?_ ?_ | with_reducible refine all_under (fun h => ?_) | with_reducible refine all_one ?_ | with_reducible refine all_cons ?_ ?_)
        all_goals first | exact (rfl : @Eq (List Value) _ _) | with_reducible exact le_goal (Nat.le_of_ble_eq_true rfl) | with_reducible exact fixd_goal rfl (Nat.le_of_ble_eq_true rfl) | (with_reducible refine hit_intro ?_ ?_ <;> (simp; done)) | exact (rfl : @Eq Value _ (Value.iface _ _)) | exact (rfl : @Eq Value _ (Value.agg _)) | (with_reducible refine veq_goal ?_; simp; done) | skip
        exact outB_goal rfl
      have q31 : Con CT 31 [ownAt 2 d.length, .int .i64 1] [mWay w, mRes (0, postL w.both d), outB .u8 d, outB .u8 (postL w.both d), mOwn 0 (postL w.both d).length 3] (.int .i64 (1 + d.length)) [mWay w, mRes (0, postL w.both d), outB .u8 (markL d.length 1), outB .u8 (postL w.both d), mOwn 0 (postL w.both d).length 3] := m31' d 1 _ 2 (by omega) (by omega) rfl
      have q32 : Con CT 32 [.agg #[.int .i64 0, ownAt 3 (postL w.both d).length], .int .i64 1] [mWay w, mRes (0, postL w.both d), outB .u8 (markL d.length 1), outB .u8 (postL w.both d), mOwn 0 (postL w.both d).length 3] (.int .i64 (1 + (postL w.both d).length)) [mWay w, mRes (0, postL w.both d), outB .u8 (markL d.length 1), outB .u8 (markL (postL w.both d).length 1), mOwn 0 (postL w.both d).length 3] := m32' 0 (postL w.both d) 1 _ 3 (by omega) (by omega) rfl
      refine Fz.of_sRun (K := K42) (K3 := ((((Spec3.none.add 16 (conE CT 16 (fun _ _ => ownAt 2 d.length) (fun _ _ => [mWay w, mRes (0, postL w.both d), outB .u8 d]))).add 42 (conE CT 42 (fun _ _ => .agg #[.int .i64 0, ownAt 3 (postL w.both d).length]) (fun _ _ => [mWay w, mRes (0, postL w.both d), outB .u8 d, outB .u8 (postL w.both d)]))).add 31 (conE CT 31 (fun _ _ => .int .i64 (1 + d.length)) (fun _ _ => [mWay w, mRes (0, postL w.both d), outB .u8 (markL d.length 1), outB .u8 (postL w.both d), mOwn 0 (postL w.both d).length 3]))).add 32 (conE CT 32 (fun _ _ => .int .i64 (1 + (postL w.both d).length)) (fun _ _ => [mWay w, mRes (0, postL w.both d), outB .u8 (markL d.length 1), outB .u8 (markL (postL w.both d).length 1), mOwn 0 (postL w.both d).length 3])))) (O := [(4, 16), (5, 42), (11, 31), (15, 32)]) (D := [(100014, .bool false), (100029, .bool false), (100034, .bool false), (100045, .bool false), (100053, .bool false), (100056, .bool false), (100065, .bool false), (100070, .bool false), (100073, .bool false), (15, wayV w), (16, wayV w), (18, intsV .u8 d), (19, bresV (0, postL w.both d)), (21, ownAt 2 d.length), (22, wayV w), (23, wayV w), (24, ownAt 2 d.length), (25, .agg #[.int .i64 0, ownAt 3 (postL w.both d).length]), (26, .agg #[.int .i64 0, ownAt 3 (postL w.both d).length]), (27, bresV (0, postL w.both d)), (30, ownAt 2 d.length), (35, ownAt 2 d.length), (37, .int .i64 (1 + d.length)), (41, .agg #[.int .i64 0, ownAt 3 (postL w.both d).length]), (42, bresV (0, postL w.both d)), (46, .agg #[.int .i64 0, ownAt 3 (postL w.both d).length]), (48, .int .i64 (1 + (postL w.both d).length)), (49, .agg #[.int .i64 0, ownAt 3 (postL w.both d).length]), (62, bresV (0, postL w.both d)), (63, bresV (0, postL w.both d)), (66, .agg #[.int .i64 0, ownAt 3 (postL w.both d).length]), (28, .bool true), (32, intsV .u8 d), (33, .bool true), (43, .bool true), (51, .int .i64 (1 + (postL w.both d).length)), (57, wayV w), (58, wayV w), (60, intsV .u8 d), (61, bresV (0, postL w.both d)), (64, .bool true), (68, .int .i64 (1 + (postL w.both d).length))]) (k := 400) (H := []) CT_ok rfl K42_ok (by repeat' (first | exact Spec3OK.none | refine Spec3OK.add ?_ conE_ok)) (c := Try.f9.body.get rfl) Try.func9 rfl (Nat.le_of_ble_eq_true rfl) (by decide) rfl ok9 rfl ?_ ?_
      · repeat' (first | with_reducible exact holds_none | with_reducible exact all_nil | with_reducible refine holds_some ?_ | with_reducible refine andP_intro ?_ ?_ | with_reducible refine condP_intro (fun h => ?_) (fun h => ?_) | with_reducible refine psP_intro ?_ | with_reducible refine all_append ?_ ?_ | with_reducible refine all_under (fun h => ?_) | with_reducible refine all_one ?_ | with_reducible refine all_cons ?_ ?_)
        all_goals first | exact (rfl : @Eq (List Value) _ _) | with_reducible exact le_goal (Nat.le_of_ble_eq_true rfl) | with_reducible exact fixd_goal rfl (Nat.le_of_ble_eq_true rfl) | (with_reducible refine hit_intro ?_ ?_ <;> (simp; done)) | exact (rfl : @Eq Value _ (Value.iface _ _)) | exact (rfl : @Eq Value _ (Value.agg _)) | (with_reducible refine veq_goal ?_; simp; done) | skip
        all_goals first | rfl | exact hb | exact hit_of d (by simp) (by simp) hd | exact hit_of (d, d) (by simp [outB]) (by simp) ⟨hd, hd⟩ | exact hit_of ((0, postL w.both d), (0, postL w.both d)) (by simp [outB]) (by simp) ⟨hl32, hl32⟩ | exact q16 | exact q42 | exact q31 | exact q32 | exact outB_goal (by simp) | exact hit_of ((0, markL (postL w.both d).length 1), 1) (by simp [outB]) (by simp) ⟨by omega, by simp; omega⟩ | (simp [outB, hc0, held_mark]; done) | (simp [outB, hc0, held_mark]; omega) | trace_state
      · rfl
    | false =>
      have hc0 : pcode w d ≠ 0 := by simpa using hc
      have q16 : Con CT 16 [intsV .u8 d] [mWay w, mRes (pcode w d, [])] (ownAt 2 d.length) [mWay w, mRes (pcode w d, []), outB .u8 d] := by
        refine Con.lift (m := [mWay w, mRes (pcode w d, [])]) rfl (o16 d hd) (outB_own _ _) rfl rfl ?_ rfl
        repeat' (first | with_reducible exact holds_none | with_reducible exact all_nil | with_reducible refine holds_some ?_ | with_reducible refine andP_intro ?_ ?_ | with_reducible refine condP_intro (fun h => ?_) (fun h => ?_) | with_reducible refine psP_intro ?_ | with_reducible refine all_append ?_ ?_ | with_reducible refine all_under (fun h => ?_) | with_reducible refine all_one ?_ | with_reducible refine all_cons ?_ ?_)
        all_goals first | exact (rfl : @Eq (List Value) _ _) | with_reducible exact le_goal (Nat.le_of_ble_eq_true rfl) | with_reducible exact fixd_goal rfl (Nat.le_of_ble_eq_true rfl) | (with_reducible refine hit_intro ?_ ?_ <;> (simp; done)) | exact (rfl : @Eq Value _ (Value.iface _ _)) | exact (rfl : @Eq Value _ (Value.agg _)) | (with_reducible refine veq_goal ?_; simp; done) | skip
      have q42 : Con CT 42 [wayV w, ownAt 2 d.length] [mWay w, mRes (pcode w d, []), outB .u8 d] (.agg #[.int .i64 (pcode w d), .slice none 0 0]) [mWay w, mRes (pcode w d, []), outB .u8 d] := by
        refine Con.lift (m := [mWay w, mRes (pcode w d, []), outB .u8 d]) rfl (n42 w d hc0) trivial rfl rfl ?_ (by simp [outB])
        repeat' (first | with_reducible exact holds_none | with_reducible exact all_nil | with_reducible refine holds_some ?_ | with_reducible refine andP_intro ?_ ?_ | with_reducible refine condP_intro (fun h => ?_) (fun h => ?_) | with_reducible refine psP_intro ?_ | with_reducible refine all_append ?_ ?_ | with_reducible refine all_under (fun h => ?_) | with_reducible refine all_one ?_ | with_reducible refine all_cons ?_ ?_)
        all_goals first | exact (rfl : @Eq (List Value) _ _) | with_reducible exact le_goal (Nat.le_of_ble_eq_true rfl) | with_reducible exact fixd_goal rfl (Nat.le_of_ble_eq_true rfl) | (with_reducible refine hit_intro ?_ ?_ <;> (simp; done)) | exact (rfl : @Eq Value _ (Value.iface _ _)) | exact (rfl : @Eq Value _ (Value.agg _)) | (with_reducible refine veq_goal ?_; simp; done) | skip
        exact outB_goal rfl
      have q31 : Con CT 31 [ownAt 2 d.length, .int .i64 1] [mWay w, mRes (pcode w d, []), outB .u8 d, mNil (pcode w d)] (.int .i64 (1 + d.length)) [mWay w, mRes (pcode w d, []), outB .u8 (markL d.length 1), mNil (pcode w d)] := m31' d 1 _ 2 (by omega) (by omega) rfl
      refine Fz.of_sRun (K := K42) (K3 := (((Spec3.none.add 16 (conE CT 16 (fun _ _ => ownAt 2 d.length) (fun _ _ => [mWay w, mRes (pcode w d, []), outB .u8 d]))).add 42 (conE CT 42 (fun _ _ => .agg #[.int .i64 (pcode w d), .slice none 0 0]) (fun _ _ => [mWay w, mRes (pcode w d, []), outB .u8 d]))).add 31 (conE CT 31 (fun _ _ => .int .i64 (1 + d.length)) (fun _ _ => [mWay w, mRes (pcode w d, []), outB .u8 (markL d.length 1), mNil (pcode w d)])))) (O := [(4, 16), (5, 42), (11, 31)]) (D := [(100014, .bool false), (100029, .bool false), (100034, .bool false), (100045, .bool false), (100053, .bool false), (100056, .bool false), (100065, .bool false), (100070, .bool false), (100073, .bool false), (15, wayV w), (16, wayV w), (18, intsV .u8 d), (19, bresV (pcode w d, [])), (21, ownAt 2 d.length), (22, wayV w), (23, wayV w), (24, ownAt 2 d.length), (25, .agg #[.int .i64 (pcode w d), .slice none 0 0]), (26, .agg #[.int .i64 (pcode w d), .slice none 0 0]), (27, bresV (pcode w d, [])), (30, ownAt 2 d.length), (35, ownAt 2 d.length), (37, .int .i64 (1 + d.length)), (41, .agg #[.int .i64 (pcode w d), .slice none 0 0]), (42, bresV (pcode w d, [])), (46, .agg #[.int .i64 (pcode w d), .slice none 0 0]), (48, .int .i64 1), (49, .agg #[.int .i64 (pcode w d), .slice none 0 0]), (62, bresV (pcode w d, [])), (63, bresV (pcode w d, [])), (66, .agg #[.int .i64 (pcode w d), .slice none 0 0]), (28, .bool true), (32, intsV .u8 d), (33, .bool true), (43, .bool true), (51, .int .i64 1), (57, wayV w), (58, wayV w), (60, intsV .u8 d), (61, bresV (pcode w d, [])), (64, .bool true), (68, .int .i64 1)]) (k := 400) (H := []) CT_ok rfl K42_ok (by repeat' (first | exact Spec3OK.none | refine Spec3OK.add ?_ conE_ok)) (c := Try.f9.body.get rfl) Try.func9 rfl (Nat.le_of_ble_eq_true rfl) (by decide) rfl ok9 rfl ?_ ?_
      · repeat' (first | with_reducible exact holds_none | with_reducible exact all_nil | with_reducible refine holds_some ?_ | with_reducible refine andP_intro ?_ ?_ | with_reducible refine condP_intro (fun h => ?_) (fun h => ?_) | with_reducible refine psP_intro ?_ | with_reducible refine all_append ?_ ?_ | with_reducible refine all_under (fun h => ?_) | with_reducible refine all_one ?_ | with_reducible refine all_cons ?_ ?_)
        all_goals first | exact (rfl : @Eq (List Value) _ _) | with_reducible exact le_goal (Nat.le_of_ble_eq_true rfl) | with_reducible exact fixd_goal rfl (Nat.le_of_ble_eq_true rfl) | (with_reducible refine hit_intro ?_ ?_ <;> (simp; done)) | exact (rfl : @Eq Value _ (Value.iface _ _)) | exact (rfl : @Eq Value _ (Value.agg _)) | (with_reducible refine veq_goal ?_; simp; done) | skip
        all_goals first | rfl | exact hb | exact hit_of d (by simp) (by simp) hd | exact hit_of (d, d) (by simp [outB]) (by simp) ⟨hd, hd⟩ | exact hit_of ((pcode w d, []), (pcode w d, [])) (by simp [outB]) (by simp) (by simp) | exact q16 | exact q42 | exact q31 | exact outB_goal (by simp) | exact hit_of ((pcode w d, []), 1) (by simp) (by simp) rfl | exact hit_of ((pcode w d, []), 1) (by simp) (by simp) (by simp) | (simp [outB, hc0, hc, held_mark, heldL]; done) | (simp [outB, hc0, held_mark]; omega) | trace_state
      · rfl
theorem all_FnExactPostBytes : ∀ xs, TypedAll CT [41, 22] xs → Fz CT 9 xs (.bool true)
  | [a, b], h => by
    obtain ⟨cs, rfl, hw⟩ : ∃ cs : Array Value, a = .agg cs ∧ Typed CT 41 cs.toList := h.1
    obtain ⟨w, hw⟩ := typed_way hw
    obtain ⟨d, rfl, hd, _⟩ := typed_ints h.2.1 rfl rfl rfl
    obtain ⟨cs⟩ := cs
    simp only at hw
    subst hw
    exact law9 w d
  | [], h => h.elim
  | [_], h => h.2.elim
  | _ :: _ :: _ :: _, h => h.2.2.elim
end Go.Ab
