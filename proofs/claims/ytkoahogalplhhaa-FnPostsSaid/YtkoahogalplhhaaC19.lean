/- The law FnPosts, at all arguments. -/
import Derived.Test.YtkoahogalplhhaaC18
namespace Go.Ab
open Go.Proofs
set_option maxRecDepth 100000
set_option linter.unusedVariables false
set_option linter.unusedSimpArgs false
theorem bytes_post {b : Bool} : ∀ {d : List Int}, bytesOk d → bytesOk (postL b d)
  | [], h => h
  | x :: xs, h => by
    have ih := bytes_post (b := b) (d := xs) fun y hy => h y (List.mem_cons_of_mem _ hy)
    have hx := h x (List.mem_cons_self ..)
    intro y hy
    unfold postL at hy
    cases hc : x == 10 && b with
    | true =>
      rw [hc] at hy
      simp only [cond_true, List.mem_cons] at hy
      rcases hy with rfl | rfl | hy
      · omega
      · exact hx
      · exact ih y hy
    | false =>
      rw [hc] at hy
      simp only [cond_false, List.mem_cons] at hy
      rcases hy with rfl | hy
      · exact hx
      · exact ih y hy
theorem bytes_plain {b : Bool} : ∀ {d : List Int}, bytesOk d → bytesOk (plainL b d)
  | [], h => h
  | x :: xs, h => by
    have ih := bytes_plain (b := b) (d := xs) fun y hy => h y (List.mem_cons_of_mem _ hy)
    have hx := h x (List.mem_cons_self ..)
    intro y hy
    unfold plainL at hy
    cases hc : b && (x == 13 && xs.head? == some 10) with
    | true => rw [hc] at hy; exact ih y hy
    | false =>
      rw [hc] at hy
      simp only [cond_false, List.mem_cons] at hy
      rcases hy with rfl | hy
      · exact hx
      · exact ih y hy
theorem two_bits : ∀ n : Nat, n < 512 → ((andI (n : Int) 128 == 128) && (andI (n : Int) 256 == 256)) = (andI (n : Int) 128 != 0 && andI (n : Int) 256 != 0) := by decide +kernel
theorem WayT.flags_eq {w : WayT} (h : w.fault = 0) : ((andI w.f 128 == 128) && (andI w.f 256 == 256)) = w.both := by
  have h1 : 0 ≤ w.f ∧ w.f ≤ 511 := by
    unfold WayT.fault WayT.list at h
    simp only [faultL] at h
    cases hc : (decide (0 ≤ w.f) && decide (w.f ≤ bif (0 : Nat) == 0 then 511 else 255)) with
    | true => simp at hc; exact hc
    | false => rw [hc] at h; simp at h
  have := two_bits w.f.toNat (by omega)
  rw [show ((w.f.toNat : Nat) : Int) = w.f by omega] at this
  exact this
theorem dec_eq {α β : Type} {f : α → β} {a b : α} {v : β} (h : a = b) (g : f b = v) : f a = v := by rw [h]; exact g
theorem ok11 : codeOk CT Try.f11 (Try.f11.body.get rfl) = true := by kernel_rfl
--%D TW .tuple #[wayV w, intsV .u8 d]
--%D h1 (100012, .bool false), (15, .tuple #[wayV w, intsV .u8 d]), (18, wayV w), (20, bresV (C, R)), (23, .tuple #[wayV w, intsV .u8 d]), (26, wayV w), (28, bresV (C, P)), (30, .int .i64 C), (31, wayV w), (33, bresV (C, P)), (34, .int .i64 C), (38, intsV .u8 P), (39, wayV w), (41, bresV (C, P)), (42, intsV .u8 P), (43, .bool true), (100045, .bool false), (47, .int .i64 C), (49, wayV w), (51, bresV (C, R)), (52, .int .i64 C), (54, .int .i64 C)
--%D fin all_goals first | rfl | assumption | exact hit_of s rfl (by simp) hs | exact hit_of d rfl (by simp) trivial | exact hit_of s rfl (by simp) trivial | exact hit_of (w, d) rfl (by simp) trivial | exact hit_of w rfl (by simp) trivial | exact hit_of ([], []) rfl (by simp) ⟨hnil, hnil⟩ | exact hit_of (r, d) rfl (by simp) ⟨hr, hdb⟩ | exact hit_of (r, r) rfl (by simp) ⟨hr, hr⟩ | exact hit_of (d, d) rfl (by simp) ⟨hdb, hdb⟩ | exact hit_of (P, P) rfl (by simp) ⟨hP, hP⟩ | exact hit_of (Q, d) rfl (by simp) ⟨hQ, hdb⟩ | exact hit_of (w, r) rfl (by simp) trivial | exact hit_of (w, 128) rfl (by simp) ⟨hf, .inl rfl⟩ | exact hit_of (w, 256) rfl (by simp) ⟨hf, .inr rfl⟩ | (simp [ew, ed]; done) | (simp; omega) | (simp [hc, hc0]; done) | trace_state
--%D fin2 all_goals first | rfl | assumption | exact gR | exact gP | exact gQ | exact congrArg Value.bool hfg | exact congrArg (Value.int .i64) hf1 | exact congrArg (Value.int .i64) hf2 | exact congrArg (Value.int .i64) ((wrap64 (by omega) (by omega)).trans hrl.symm) | exact hit_of s rfl (by simp) hs | exact hit_of d rfl (by simp) trivial | exact hit_of s rfl (by simp) trivial | exact hit_of (w, d) rfl (by simp) trivial | exact hit_of w rfl (by simp) trivial | exact hit_of ([], []) rfl (by simp) ⟨hnil, hnil⟩ | exact hit_of (r, d) rfl (by simp) ⟨hr, hdb⟩ | exact hit_of (r, r) rfl (by simp) ⟨hr, hr⟩ | exact hit_of (d, d) rfl (by simp) ⟨hdb, hdb⟩ | exact hit_of (P, P) rfl (by simp) ⟨hP, hP⟩ | exact hit_of (Q, d) rfl (by simp) ⟨hQ, hdb⟩ | exact hit_of (w, r) rfl (by simp) trivial | exact hit_of (w, 128) rfl (by simp) ⟨hf, .inl rfl⟩ | exact hit_of (w, 256) rfl (by simp) ⟨hf, .inr rfl⟩ | (simp [ew, ed]; done) | (simp; omega) | (simp [hc, hc0]; done) | trace_state
set_option maxHeartbeats 4000000 in
theorem law11 (s : List Int) (hb : bytesOk s) : Fz CT 11 [intsV .u8 s] (.bool true) := by
  cases hbig : decide ((s.length : Int) > 1048576) with
  | true =>
    refine Fz.of_sRun (K := K51) (K3 := Spec3.none) (O := []) (D := [(12, .bool (decide ((s.length : Int) > 1048576))), (100012, .bool true)]) (k := 400) (H := []) CT_ok rfl K51_ok Spec3OK.none (c := Try.f11.body.get rfl) Try.func11 rfl (Nat.le_of_ble_eq_true rfl) (by decide) rfl ok11 rfl ?_ ?_
    · repeat' (first | with_reducible exact holds_none | with_reducible exact all_nil | with_reducible refine holds_some ?_ | with_reducible refine andP_intro ?_ ?_ | with_reducible refine condP_intro (fun h => ?_) (fun h => ?_) | with_reducible refine psP_intro ?_ | with_reducible refine all_append ?_ ?_ | with_reducible refine all_under (fun h => ?_) | with_reducible refine all_one ?_ | with_reducible refine all_cons ?_ ?_)
      all_goals first | exact (rfl : @Eq (List Value) _ _) | with_reducible exact le_goal (Nat.le_of_ble_eq_true rfl) | with_reducible exact fixd_goal rfl (Nat.le_of_ble_eq_true rfl) | (with_reducible refine hit_intro ?_ ?_ <;> (simp; done)) | exact (rfl : @Eq Value _ (Value.iface _ _)) | exact (rfl : @Eq Value _ (Value.agg _)) | (with_reducible refine veq_goal ?_; simp; done) | skip
      all_goals first | exact hbig | trace_state
    · rfl
  | false =>
    have hs : s.length ≤ 1048576 ∧ bytesOk s := ⟨by have := of_decide_eq_false hbig; omega, hb⟩
    obtain ⟨hdl, hdb, _⟩ := drawPost_ok hs
    generalize ew : (drawPost s).1 = w at *
    generalize ed : (drawPost s).2 = d at *
    have hs1 := hs.1
    have hnil : bytesOk [] := fun x hx => by cases hx
    cases hc : pcode w d == 0 with
    | false =>
      have hc0 : pcode w d ≠ 0 := by simpa using hc
      refine Fz.of_sRun (K := K51) (K3 := Spec3.none) (O := []) (D := [(12, .bool false), (100048, .bool true), (100012, .bool false), (15, .tuple #[wayV w, intsV .u8 d]), (18, wayV w), (20, bresV (pcode w d, [])), (23, .tuple #[wayV w, intsV .u8 d]), (26, wayV w), (28, bresV (pcode w d, [])), (30, .int .i64 (pcode w d)), (31, wayV w), (33, bresV (pcode w d, [])), (34, .int .i64 (pcode w d)), (38, intsV .u8 []), (39, wayV w), (41, bresV (pcode w d, [])), (42, intsV .u8 []), (43, .bool true), (100045, .bool false), (47, .int .i64 (pcode w d)), (49, wayV w), (51, bresV (pcode w d, [])), (52, .int .i64 (pcode w d)), (54, .int .i64 (pcode w d)), (58, frV d), (61, frV d)]) (k := 400) (H := []) CT_ok rfl K51_ok Spec3OK.none (c := Try.f11.body.get rfl) Try.func11 rfl (Nat.le_of_ble_eq_true rfl) (by decide) rfl ok11 rfl ?_ ?_
      · repeat' (first | with_reducible exact holds_none | with_reducible exact all_nil | with_reducible refine holds_some ?_ | with_reducible refine andP_intro ?_ ?_ | with_reducible refine condP_intro (fun h => ?_) (fun h => ?_) | with_reducible refine psP_intro ?_ | with_reducible refine all_append ?_ ?_ | with_reducible refine all_under (fun h => ?_) | with_reducible refine all_one ?_ | with_reducible refine all_cons ?_ ?_)
        all_goals first | exact (rfl : @Eq (List Value) _ _) | with_reducible exact le_goal (Nat.le_of_ble_eq_true rfl) | with_reducible exact fixd_goal rfl (Nat.le_of_ble_eq_true rfl) | (with_reducible refine hit_intro ?_ ?_ <;> (simp; done)) | exact (rfl : @Eq Value _ (Value.iface _ _)) | exact (rfl : @Eq Value _ (Value.agg _)) | (with_reducible refine veq_goal ?_; simp; done) | skip
        all_goals first | rfl | assumption | exact hit_of s rfl (by simp) hs | exact hit_of d rfl (by simp) trivial | exact hit_of s rfl (by simp) trivial | exact hit_of (w, d) rfl (by simp) trivial | exact hit_of w rfl (by simp) trivial | exact hit_of ([], []) rfl (by simp) ⟨hnil, hnil⟩ | exact hit_of (r, d) rfl (by simp) ⟨hr, hdb⟩ | exact hit_of (r, r) rfl (by simp) ⟨hr, hr⟩ | exact hit_of (d, d) rfl (by simp) ⟨hdb, hdb⟩ | exact hit_of (P, P) rfl (by simp) ⟨hP, hP⟩ | exact hit_of (Q, d) rfl (by simp) ⟨hQ, hdb⟩ | exact hit_of (w, r) rfl (by simp) trivial | exact hit_of (w, 128) rfl (by simp) ⟨hf, .inl rfl⟩ | exact hit_of (w, 256) rfl (by simp) ⟨hf, .inr rfl⟩ | (simp [ew, ed]; done) | (simp; omega) | (simp [hc, hc0]; done) | trace_state
      · simp
    | true =>
      have hc0 : pcode w d = 0 := by simpa using hc
      obtain ⟨hf, hl⟩ := pcode_ok hc0
      generalize er : postL w.both d = r at *
      generalize eP : plainL w.both d = P at *
      have hr : bytesOk r := er ▸ bytes_post hdb
      have hP : bytesOk P := eP ▸ bytes_plain hdb
      have eC : (bif pcode w d == 0 then (0, r) else (pcode w d, [])) = ((0, r) : Int × List Int) := by rw [hc]; rfl
      obtain ⟨Q, cQ, eQ, hQ, hQd⟩ : ∃ (Q : List Int) (cQ : Int), (bif pcode w r == 0 then (0, plainL w.both r) else (pcode w r, [])) = (cQ, Q) ∧ bytesOk Q ∧ (r.length ≤ 1000 → Q = d) := by
        cases hq : pcode w r == 0 with
        | true => exact ⟨plainL w.both r, 0, rfl, bytes_plain hr, fun _ => by rw [← er, plain_post]⟩
        | false => exact ⟨[], pcode w r, rfl, hnil, fun h => by
            have : pcode w r = 0 := by unfold pcode; simp [hf, h]
            rw [this] at hq; cases hq⟩
      have hg : (bif decide ((r.length : Int) ≤ 1000) then !(Q == d) else false) = false := by
        cases h : decide ((r.length : Int) ≤ 1000) with
        | false => rfl
        | true => rw [hQd (by have := of_decide_eq_true h; omega)]; simp
      have eR : (bif pcode w d == 0 then (0, postL w.both d) else (pcode w d, [])) = ((0, r) : Int × List Int) := by rw [hc, er]; rfl
      have eP2 : (bif pcode w d == 0 then (0, plainL w.both d) else (pcode w d, [])) = ((0, P) : Int × List Int) := by rw [hc, eP]; rfl
      have dW : ∀ e : List Int, (wayD (wayV w), intsD (intsV .u8 e)) = (w, e) := fun e => by simp
      have gR := (congrArg (fun x : WayT × List Int => bresV (bif pcode x.1 x.2 == 0 then (0, postL x.1.both x.2) else (pcode x.1 x.2, []))) (dW d)).trans (congrArg bresV eR)
      have gP := (congrArg (fun x : WayT × List Int => bresV (bif pcode x.1 x.2 == 0 then (0, plainL x.1.both x.2) else (pcode x.1 x.2, []))) (dW d)).trans (congrArg bresV eP2)
      have gQ := (congrArg (fun x : WayT × List Int => bresV (bif pcode x.1 x.2 == 0 then (0, plainL x.1.both x.2) else (pcode x.1 x.2, []))) (dW r)).trans (congrArg bresV eQ)
      have hf1 : (bif decide (d.length ≤ 1000) then (0 : Int) else 2) = 0 := by simp [hl]
      have hf2 : (bif decide (d.length ≤ 1000) then feedsN d else 0) = feedsN d := by simp [hl]
      have hfl := WayT.flags_eq hf
      cases hbo : w.both with
      | true =>
        have hfg : (bif (andI w.f 128 == 128) then (andI w.f 256 == 256) else false) = true := by rw [← hbo, ← hfl]; cases (andI w.f 128 == 128) <;> rfl
        have hrl : (r.length : Int) = d.length + feedsN d := by rw [← er, hbo, post_len]
        have hrl2 := feedsN_le d
        refine Fz.of_sRun (K := K51) (K3 := Spec3.none) (O := []) (D := [(12, .bool false), (100048, .bool false), (100012, .bool false), (15, .tuple #[wayV w, intsV .u8 d]), (18, wayV w), (20, bresV (0, r)), (23, .tuple #[wayV w, intsV .u8 d]), (26, wayV w), (28, bresV (0, P)), (30, .int .i64 0), (31, wayV w), (33, bresV (0, P)), (34, .int .i64 0), (38, intsV .u8 P), (39, wayV w), (41, bresV (0, P)), (42, intsV .u8 P), (43, .bool true), (100045, .bool false), (47, .int .i64 0), (49, wayV w), (51, bresV (0, r)), (52, .int .i64 0), (54, .int .i64 0), (66, frV d), (67, wayV w), (68, .bool (andI w.f 128 == 128)), (70, wayV w), (71, .bool (andI w.f 256 == 256)), (72, .bool true), (74, intsV .u8 r), (78, wayV w), (80, intsV .u8 r), (81, bresV (cQ, Q)), (82, intsV .u8 Q), (84, .bool (Q == d)), (100086, .bool false), (100087, .bool true), (89, intsV .u8 r), (94, .int .i64 (feedsN d)), (95, .int .i64 r.length), (99, .int .i64 0), (103, wayV w), (104, .int .i64 0), (109, intsV .u8 r), (110, wayV w), (112, bresV (0, r)), (113, intsV .u8 r), (114, .bool true)]) (k := 400) (H := []) CT_ok rfl K51_ok Spec3OK.none (c := Try.f11.body.get rfl) Try.func11 rfl (Nat.le_of_ble_eq_true rfl) (by decide) rfl ok11 rfl ?_ ?_
        · repeat' (first | with_reducible exact holds_none | with_reducible exact all_nil | with_reducible refine holds_some ?_ | with_reducible refine andP_intro ?_ ?_ | with_reducible refine condP_intro (fun h => ?_) (fun h => ?_) | with_reducible refine psP_intro ?_ | with_reducible refine all_append ?_ ?_ | with_reducible refine all_under (fun h => ?_) | with_reducible refine all_one ?_ | with_reducible refine all_cons ?_ ?_)
          all_goals first | exact (rfl : @Eq (List Value) _ _) | with_reducible exact le_goal (Nat.le_of_ble_eq_true rfl) | with_reducible exact fixd_goal rfl (Nat.le_of_ble_eq_true rfl) | (with_reducible refine hit_intro ?_ ?_ <;> (simp; done)) | exact (rfl : @Eq Value _ (Value.iface _ _)) | exact (rfl : @Eq Value _ (Value.agg _)) | (with_reducible refine veq_goal ?_; simp; done) | skip
          all_goals first | rfl | assumption | exact gR | exact gP | exact gQ | exact congrArg Value.bool hfg | exact congrArg (Value.int .i64) hf1 | exact congrArg (Value.int .i64) hf2 | exact congrArg (Value.int .i64) ((wrap64 (by omega) (by omega)).trans hrl.symm) | exact hit_of s rfl (by simp) hs | exact hit_of d rfl (by simp) trivial | exact hit_of s rfl (by simp) trivial | exact hit_of (w, d) rfl (by simp) trivial | exact hit_of w rfl (by simp) trivial | exact hit_of ([], []) rfl (by simp) ⟨hnil, hnil⟩ | exact hit_of (r, d) rfl (by simp) ⟨hr, hdb⟩ | exact hit_of (r, r) rfl (by simp) ⟨hr, hr⟩ | exact hit_of (d, d) rfl (by simp) ⟨hdb, hdb⟩ | exact hit_of (P, P) rfl (by simp) ⟨hP, hP⟩ | exact hit_of (Q, d) rfl (by simp) ⟨hQ, hdb⟩ | exact hit_of (w, r) rfl (by simp) trivial | exact hit_of (w, 128) rfl (by simp) ⟨hf, .inl rfl⟩ | exact hit_of (w, 256) rfl (by simp) ⟨hf, .inr rfl⟩ | (simp [ew, ed]; done) | (simp; omega) | (simp [hc, hc0]; done) | trace_state
        · simp
      | false =>
        have hfg : (bif (andI w.f 128 == 128) then (andI w.f 256 == 256) else false) = false := by rw [← hbo, ← hfl]; cases (andI w.f 128 == 128) <;> rfl
        have hrl : True := trivial
        have hrd : r = d := by rw [← er, hbo, post_same]
        refine Fz.of_sRun (K := K51) (K3 := Spec3.none) (O := []) (D := [(12, .bool false), (100048, .bool false), (100012, .bool false), (15, .tuple #[wayV w, intsV .u8 d]), (18, wayV w), (20, bresV (0, r)), (23, .tuple #[wayV w, intsV .u8 d]), (26, wayV w), (28, bresV (0, P)), (30, .int .i64 0), (31, wayV w), (33, bresV (0, P)), (34, .int .i64 0), (38, intsV .u8 P), (39, wayV w), (41, bresV (0, P)), (42, intsV .u8 P), (43, .bool true), (100045, .bool false), (47, .int .i64 0), (49, wayV w), (51, bresV (0, r)), (52, .int .i64 0), (54, .int .i64 0), (66, frV d), (67, wayV w), (68, .bool (andI w.f 128 == 128)), (70, wayV w), (71, .bool (andI w.f 256 == 256)), (72, .bool false), (74, intsV .u8 r), (78, wayV w), (80, intsV .u8 r), (81, bresV (cQ, Q)), (82, intsV .u8 Q), (84, .bool (Q == d)), (100086, .bool false), (100087, .bool false), (117, intsV .u8 r), (119, .bool true), (122, .int .i64 0), (126, wayV w), (127, .int .i64 0), (131, wayV w), (133, bresV (0, r)), (134, .int .i64 0), (139, .int .i64 (feedsN d)), (141, frV d), (142, .int .i64 (feedsN d)), (143, .bool true)]) (k := 400) (H := []) CT_ok rfl K51_ok Spec3OK.none (c := Try.f11.body.get rfl) Try.func11 rfl (Nat.le_of_ble_eq_true rfl) (by decide) rfl ok11 rfl ?_ ?_
        · repeat' (first | with_reducible exact holds_none | with_reducible exact all_nil | with_reducible refine holds_some ?_ | with_reducible refine andP_intro ?_ ?_ | with_reducible refine condP_intro (fun h => ?_) (fun h => ?_) | with_reducible refine psP_intro ?_ | with_reducible refine all_append ?_ ?_ | with_reducible refine all_under (fun h => ?_) | with_reducible refine all_one ?_ | with_reducible refine all_cons ?_ ?_)
          all_goals first | exact (rfl : @Eq (List Value) _ _) | with_reducible exact le_goal (Nat.le_of_ble_eq_true rfl) | with_reducible exact fixd_goal rfl (Nat.le_of_ble_eq_true rfl) | (with_reducible refine hit_intro ?_ ?_ <;> (simp; done)) | exact (rfl : @Eq Value _ (Value.iface _ _)) | exact (rfl : @Eq Value _ (Value.agg _)) | (with_reducible refine veq_goal ?_; simp; done) | skip
          all_goals first | rfl | assumption | exact gR | exact gP | exact gQ | exact congrArg Value.bool hfg | exact congrArg (Value.int .i64) hf1 | exact congrArg (Value.int .i64) hf2 | exact congrArg (Value.int .i64) ((wrap64 (by omega) (by omega)).trans hrl.symm) | exact hit_of s rfl (by simp) hs | exact hit_of d rfl (by simp) trivial | exact hit_of s rfl (by simp) trivial | exact hit_of (w, d) rfl (by simp) trivial | exact hit_of w rfl (by simp) trivial | exact hit_of ([], []) rfl (by simp) ⟨hnil, hnil⟩ | exact hit_of (r, d) rfl (by simp) ⟨hr, hdb⟩ | exact hit_of (r, r) rfl (by simp) ⟨hr, hr⟩ | exact hit_of (d, d) rfl (by simp) ⟨hdb, hdb⟩ | exact hit_of (P, P) rfl (by simp) ⟨hP, hP⟩ | exact hit_of (Q, d) rfl (by simp) ⟨hQ, hdb⟩ | exact hit_of (w, r) rfl (by simp) trivial | exact hit_of (w, 128) rfl (by simp) ⟨hf, .inl rfl⟩ | exact hit_of (w, 256) rfl (by simp) ⟨hf, .inr rfl⟩ | (simp [ew, ed]; done) | (simp; omega) | (simp [hc, hc0]; done) | trace_state
        · simp
theorem all_FnPosts : ∀ xs, TypedAll CT [22] xs → Fz CT 11 xs (.bool true)
  | [a], h => by
    obtain ⟨d, rfl, hd, hb⟩ := typed_ints h.1 rfl rfl rfl
    exact law11 d fun x hx => wf_u8 (hb x hx)
  | [], h => h.elim
  | _ :: _ :: _, h => h.2.elim
end Go.Ab
