/- Draws: the source. -/
import Derived.Test.YtkoahogalplhhaaC14
namespace Go.Ab
open Go.Proofs
set_option maxRecDepth 100000
set_option linter.unusedVariables false
set_option linter.unusedSimpArgs false
abbrev srcB (s : List Int) (p : Int) : Blk := ⟨[intsV .u8 s, .int .i64 p], 0, true, true⟩
theorem tmod_nat {p : Int} {n : Nat} (h : 0 ≤ p) : Int.tmod p (n : Int) = ((p.toNat % n : Nat) : Int) := by
  obtain ⟨k, rfl⟩ := Int.eq_ofNat_of_zero_le h
  rfl
theorem tmod_in {x n : Int} (h : 0 ≤ x) (hn : 1 ≤ n) : 0 ≤ Int.tmod x n ∧ Int.tmod x n < n := ⟨Int.tmod_nonneg n h, Int.tmod_lt_of_pos x (by omega)⟩
theorem tdiv_in {p n : Int} (h : 0 ≤ p) (hn : 1 ≤ n) : 0 ≤ Int.tdiv p n ∧ Int.tdiv p n ≤ p := by
  refine ⟨Int.tdiv_nonneg h (by omega), ?_⟩
  rw [Int.tdiv_eq_ediv_of_nonneg h]
  exact Int.ediv_le_self n h
theorem ok106 : codeOk CT Try.f106 (Try.f106.body.get rfl) = true := by kernel_rfl
--%D nx (12, .int .i64 p), (13, .int .i64 (p + 1)), (21, .int .i64 (p + 1)), (22, .int .i64 p), (26, intsV .u8 s), (100017, .bool false)
--%D ny (100029, .bool false), (37, intsV .u8 s), (40, .int .i64 (j : Int)), (42, .int .u8 s[j]), (43, .int .i64 s[j]), (46, .int .i64 (p.tdiv s.length)), (47, .int .i64 (p.tdiv s.length * 37)), (48, .int .i64 (s[j] + p.tdiv s.length * 37))
--%D fi all_goals first | assumption | exact congrArg (Value.int .i64) (wrap64 (by omega) (by omega)) | exact congrArg (Value.int .i64) (by rw [show p + 1 - 1 = p by omega]; exact wrap64 (by omega) (by omega)) | exact (rfl : @Eq Value _ _) | (show n ≠ 0; omega) | exact decide_eq_false (by omega) | exact Leaf.post1 CT_ok rfl rfl rfl rfl | exact in_range hj | exact in_range hj2 | exact load_ints (by decide) (by simpa using hj) | exact load_ints (by decide) (by simpa using hj2) | (rw [loaded (by decide)]; simp [hj]; done) | (rw [loaded (by decide)]; simp [hj2]; done) | exact hL0 | exact congrArg (Value.int .i64) ((tmod_nat h0).trans (congrArg Int.ofNat ej)) | exact congrArg (Value.int .i64) ((tmod_nat (by omega)).trans (congrArg Int.ofNat ej2)) | (simp; omega) | trace_state
theorem d106 (s : List Int) (p n : Int) (hs : s.length ≤ 1048576) (hw : ∀ x ∈ s, 0 ≤ x ∧ x < 256) (h0 : 0 ≤ p) (h1 : p < 1099511627776) (hn : 1 ≤ n) (hn' : n ≤ 1048576) : ∃ v : Int, 0 ≤ v ∧ v < n ∧ Con CT 106 [.pointer (some ⟨0, 0, none⟩), .int .i64 n] [srcB s p] (.int .i64 v) [srcB s (p + 1)] := by
  cases hc : ((s.length : Int) == 0) with
  | true =>
    have hm := tmod_in (show 0 ≤ p * 7 by omega) hn
    refine ⟨Int.tmod (p * 7) n, hm.1, hm.2, ?_⟩
    refine Con.of_sRunK (K := K69) (K3 := Spec3.none) (O := []) (D := [(100029, .bool true), (31, .int .i64 (p * 7)), (33, .int .i64 (Int.tmod (p * 7) n)), (12, .int .i64 p), (13, .int .i64 (p + 1)), (21, .int .i64 (p + 1)), (22, .int .i64 p), (26, intsV .u8 s), (100017, .bool false)]) (j := 400) CT_ok rfl K69_ok Spec3OK.none (c := Try.f106.body.get rfl) Try.func106 rfl (Nat.le_of_ble_eq_true rfl) (by decide) ?_ ?_ rfl ok106 rfl ?_
    · exact grow1 rfl rfl rfl
    · exact closed1 rfl
    · repeat' (first | with_reducible exact holds_none | with_reducible exact all_nil | with_reducible refine holds_some ?_ | with_reducible refine andP_intro ?_ ?_ | with_reducible refine condP_intro (fun h => ?_) (fun h => ?_) | with_reducible refine psP_intro ?_ | with_reducible refine all_append ?_ ?_ | with_reducible refine all_under (fun h => ?_) | with_reducible refine all_one ?_ | with_reducible refine all_cons ?_ ?_)
      all_goals first | exact (rfl : @Eq (List Value) _ _) | with_reducible exact le_goal (Nat.le_of_ble_eq_true rfl) | with_reducible exact fixd_goal rfl (Nat.le_of_ble_eq_true rfl) | (with_reducible refine hit_intro ?_ ?_ <;> (simp; done)) | exact (rfl : @Eq Value _ (Value.iface _ _)) | exact (rfl : @Eq Value _ (Value.agg _)) | (with_reducible refine veq_goal ?_; simp; done) | skip
      all_goals first | assumption | exact congrArg (Value.int .i64) (wrap64 (by omega) (by omega)) | exact congrArg (Value.int .i64) (by rw [show p + 1 - 1 = p by omega]; exact wrap64 (by omega) (by omega)) | exact (rfl : @Eq Value _ _) | (show n ≠ 0; omega) | exact decide_eq_false (by omega) | exact Leaf.post1 CT_ok rfl rfl rfl rfl | exact in_range hj | exact in_range hj2 | exact load_ints (by decide) (by simpa using hj) | exact load_ints (by decide) (by simpa using hj2) | (rw [loaded (by decide)]; simp [hj]; done) | (rw [loaded (by decide)]; simp [hj2]; done) | exact hL0 | exact congrArg (Value.int .i64) ((tmod_nat h0).trans (congrArg Int.ofNat ej)) | exact congrArg (Value.int .i64) ((tmod_nat (by omega)).trans (congrArg Int.ofNat ej2)) | (simp; omega) | trace_state
  | false =>
    have hL : 1 ≤ s.length := by
      have : (s.length : Int) ≠ 0 := by simpa using hc
      omega
    have hL0 : (s.length : Int) ≠ 0 := by omega
    have hj : p.toNat % s.length < s.length := Nat.mod_lt _ (by omega)
    have hj2 : (p + 1).toNat % s.length < s.length := Nat.mod_lt _ (by omega)
    obtain ⟨x0, x1⟩ := hw s[p.toNat % s.length] (List.getElem_mem hj)
    obtain ⟨y0, y1⟩ := hw s[(p + 1).toNat % s.length] (List.getElem_mem hj2)
    obtain ⟨q0, q1⟩ := tdiv_in (n := (s.length : Int)) h0 (by omega)
    generalize ej : p.toNat % s.length = j at *
    generalize ej2 : (p + 1).toNat % s.length = j2 at *
    cases hc2 : decide (n > 200) with
    | true =>
      have hm := tmod_in (show 0 ≤ (s[j] + p.tdiv s.length * 37) * 251 + s[j2] * 13 + p by omega) hn
      refine ⟨_, hm.1, hm.2, ?_⟩
      refine Con.of_sRunK (K := K69) (K3 := Spec3.none) (O := []) (D := [(100050, .bool true), (52, .int .i64 ((s[j] + p.tdiv s.length * 37) * 251)), (56, intsV .u8 s), (58, .int .i64 (p + 1)), (60, .int .i64 (j2 : Int)), (62, .int .u8 s[j2]), (63, .int .i64 s[j2]), (64, .int .i64 (s[j2] * 13)), (65, .int .i64 ((s[j] + p.tdiv s.length * 37) * 251 + s[j2] * 13)), (67, .int .i64 ((s[j] + p.tdiv s.length * 37) * 251 + s[j2] * 13 + p)), (70, .int .i64 (((s[j] + p.tdiv s.length * 37) * 251 + s[j2] * 13 + p).tmod n)), (12, .int .i64 p), (13, .int .i64 (p + 1)), (21, .int .i64 (p + 1)), (22, .int .i64 p), (26, intsV .u8 s), (100017, .bool false), (100029, .bool false), (37, intsV .u8 s), (40, .int .i64 (j : Int)), (42, .int .u8 s[j]), (43, .int .i64 s[j]), (46, .int .i64 (p.tdiv s.length)), (47, .int .i64 (p.tdiv s.length * 37)), (48, .int .i64 (s[j] + p.tdiv s.length * 37))]) (j := 400) CT_ok rfl K69_ok Spec3OK.none (c := Try.f106.body.get rfl) Try.func106 rfl (Nat.le_of_ble_eq_true rfl) (by decide) ?_ ?_ rfl ok106 rfl ?_
      · exact grow1 rfl rfl rfl
      · exact closed1 rfl
      · repeat' (first | with_reducible exact holds_none | with_reducible exact all_nil | with_reducible refine holds_some ?_ | with_reducible refine andP_intro ?_ ?_ | with_reducible refine condP_intro (fun h => ?_) (fun h => ?_) | with_reducible refine psP_intro ?_ | with_reducible refine all_append ?_ ?_ | with_reducible refine all_under (fun h => ?_) | with_reducible refine all_one ?_ | with_reducible refine all_cons ?_ ?_)
        all_goals first | exact (rfl : @Eq (List Value) _ _) | with_reducible exact le_goal (Nat.le_of_ble_eq_true rfl) | with_reducible exact fixd_goal rfl (Nat.le_of_ble_eq_true rfl) | (with_reducible refine hit_intro ?_ ?_ <;> (simp; done)) | exact (rfl : @Eq Value _ (Value.iface _ _)) | exact (rfl : @Eq Value _ (Value.agg _)) | (with_reducible refine veq_goal ?_; simp; done) | skip
        all_goals first | assumption | exact congrArg (Value.int .i64) (wrap64 (by omega) (by omega)) | exact congrArg (Value.int .i64) (by rw [show p + 1 - 1 = p by omega]; exact wrap64 (by omega) (by omega)) | exact (rfl : @Eq Value _ _) | (show n ≠ 0; omega) | exact decide_eq_false (by omega) | exact Leaf.post1 CT_ok rfl rfl rfl rfl | exact in_range hj | exact in_range hj2 | exact load_ints (by decide) (by simpa using hj) | exact load_ints (by decide) (by simpa using hj2) | (rw [loaded (by decide)]; simp [hj]; done) | (rw [loaded (by decide)]; simp [hj2]; done) | exact hL0 | exact congrArg (Value.int .i64) ((tmod_nat h0).trans (congrArg Int.ofNat ej)) | exact congrArg (Value.int .i64) ((tmod_nat (by omega)).trans (congrArg Int.ofNat ej2)) | (simp; omega) | trace_state
    | false =>
      have hm := tmod_in (show 0 ≤ s[j] + p.tdiv s.length * 37 by omega) hn
      refine ⟨_, hm.1, hm.2, ?_⟩
      refine Con.of_sRunK (K := K69) (K3 := Spec3.none) (O := []) (D := [(100050, .bool false), (70, .int .i64 ((s[j] + p.tdiv s.length * 37).tmod n)), (12, .int .i64 p), (13, .int .i64 (p + 1)), (21, .int .i64 (p + 1)), (22, .int .i64 p), (26, intsV .u8 s), (100017, .bool false), (100029, .bool false), (37, intsV .u8 s), (40, .int .i64 (j : Int)), (42, .int .u8 s[j]), (43, .int .i64 s[j]), (46, .int .i64 (p.tdiv s.length)), (47, .int .i64 (p.tdiv s.length * 37)), (48, .int .i64 (s[j] + p.tdiv s.length * 37))]) (j := 400) CT_ok rfl K69_ok Spec3OK.none (c := Try.f106.body.get rfl) Try.func106 rfl (Nat.le_of_ble_eq_true rfl) (by decide) ?_ ?_ rfl ok106 rfl ?_
      · exact grow1 rfl rfl rfl
      · exact closed1 rfl
      · repeat' (first | with_reducible exact holds_none | with_reducible exact all_nil | with_reducible refine holds_some ?_ | with_reducible refine andP_intro ?_ ?_ | with_reducible refine condP_intro (fun h => ?_) (fun h => ?_) | with_reducible refine psP_intro ?_ | with_reducible refine all_append ?_ ?_ | with_reducible refine all_under (fun h => ?_) | with_reducible refine all_one ?_ | with_reducible refine all_cons ?_ ?_)
        all_goals first | exact (rfl : @Eq (List Value) _ _) | with_reducible exact le_goal (Nat.le_of_ble_eq_true rfl) | with_reducible exact fixd_goal rfl (Nat.le_of_ble_eq_true rfl) | (with_reducible refine hit_intro ?_ ?_ <;> (simp; done)) | exact (rfl : @Eq Value _ (Value.iface _ _)) | exact (rfl : @Eq Value _ (Value.agg _)) | (with_reducible refine veq_goal ?_; simp; done) | skip
        all_goals first | assumption | exact congrArg (Value.int .i64) (wrap64 (by omega) (by omega)) | exact congrArg (Value.int .i64) (by rw [show p + 1 - 1 = p by omega]; exact wrap64 (by omega) (by omega)) | exact (rfl : @Eq Value _ _) | (show n ≠ 0; omega) | exact decide_eq_false (by omega) | exact Leaf.post1 CT_ok rfl rfl rfl rfl | exact in_range hj | exact in_range hj2 | exact load_ints (by decide) (by simpa using hj) | exact load_ints (by decide) (by simpa using hj2) | (rw [loaded (by decide)]; simp [hj]; done) | (rw [loaded (by decide)]; simp [hj2]; done) | exact hL0 | exact congrArg (Value.int .i64) ((tmod_nat h0).trans (congrArg Int.ofNat ej)) | exact congrArg (Value.int .i64) ((tmod_nat (by omega)).trans (congrArg Int.ofNat ej2)) | (simp; omega) | trace_state

/-- Two blocks, under their names. -/
def at2 (n k : Nat) : Nat → Option Nat := fun i => if i = 0 then some n else if i = 1 then some k else none
theorem at2_some {n k i j : Nat} (h : at2 n k i = some j) : (i = 0 ∧ j = n) ∨ (i = 1 ∧ j = k) := by
  unfold at2 at h
  split at h
  · cases h; exact .inl ⟨‹_›, rfl⟩
  · split at h
    · cases h; exact .inr ⟨‹_›, rfl⟩
    · cases h
/-- A call that writes to one of the caller's blocks and reads another. -/
theorem Con.frame2 {C : Cfg} {f : FuncId} {args0 args : List Value} {b0 b1 c : Blk} {v : Value} {m : Mem} {n k : Nat} (h0 : C.G = 0) (h : Con C f args0 [b0, c] v [b1, c]) (hn : m[n]? = some b0) (hk : m[k]? = some c) (hne : n ≠ k) (hargs : RNL inert (at2 n k) args0 args)
    (hc0 : b0.cells.all inert = true) (hc1 : b1.cells.all inert = true) (hc : c.cells.all inert = true) (hv : RN inert (at2 n k) v v) (hreal : Real m args n) : Con C f args m v (m.set n b1) := by
  have hlt := (List.getElem?_eq_some_iff.1 hn).1
  have hlt2 := (List.getElem?_eq_some_iff.1 hk).1
  have S : SimM inert (at2 n k) [b0, c] m := by
    refine ⟨fun a b d h1 h2 => ?_, fun a b h1 => ?_, fun a b d h1 h2 => ?_⟩
    · rcases at2_some h1 with ⟨e1, e2⟩ | ⟨e1, e2⟩ <;> rcases at2_some h2 with ⟨e3, e4⟩ | ⟨e3, e4⟩ <;> omega
    · rcases at2_some h1 with ⟨e1, e2⟩ | ⟨e1, e2⟩ <;> simp [e1]
    · rcases at2_some h2 with ⟨rfl, rfl⟩ | ⟨rfl, rfl⟩
      · simp at h1
        subst h1
        exact ⟨b0, hn, rfl, rfl, rfl, fun _ => .leaf hc0⟩
      · simp at h1
        subst h1
        exact ⟨c, hk, rfl, rfl, rfl, fun _ => .leaf hc⟩
  have hm' : more (at2 n k) [b0, c].length [b1, c].length m.length = at2 n k := by
    funext i
    unfold more at2
    simp only [List.length_cons, List.length_nil]
    by_cases hi : i < 2
    · rw [if_pos hi]
    · rw [if_neg hi, if_neg hi, if_neg (by omega), if_neg (by omega)]
  refine Con.frame h S (fun g hg => by omega) hargs (by simp) (fun i hi hki => ?_) (fun i j b h1 h2 => ?_) (by rw [hm']; exact hv) (fun i j hij => ?_)
  · rw [List.getElem?_set_ne]
    rintro rfl
    exact hki 0 (by simp [at2])
  · rw [hm'] at h2 ⊢
    rcases at2_some h2 with ⟨rfl, rfl⟩ | ⟨rfl, rfl⟩
    · simp at h1
      subst h1
      exact ⟨b1, by rw [List.getElem?_set_self hlt], rfl, rfl, rfl, fun _ => .leaf hc1⟩
    · simp at h1
      subst h1
      exact ⟨c, by rw [List.getElem?_set_ne hne]; exact hk, rfl, rfl, rfl, fun _ => .leaf hc⟩
  · rcases at2_some hij with ⟨_, rfl⟩ | ⟨_, rfl⟩
    · exact .inr hreal
    · exact .inl (List.getElem?_set_ne hne)

/-- What a source must be. -/
def srcOk (s : List Int) (p : Int) : Prop := s.length ≤ 1048576 ∧ (∀ x ∈ s, 0 ≤ x ∧ x < 256) ∧ 0 ≤ p ∧ p < 1099511627776
theorem d106' {s : List Int} {p : Int} (n : Int) (m : Mem) (a : Nat) (h : srcOk s p) (hn : 1 ≤ n) (hn' : n ≤ 1048576) (hm : m[a]? = some (srcB s p)) : ∃ v : Int, 0 ≤ v ∧ v < n ∧ Con CT 106 [.pointer (some ⟨a, 0, none⟩), .int .i64 n] m (.int .i64 v) (m.set a (srcB s (p + 1))) := by
  obtain ⟨v, h1, h2, h3⟩ := d106 s p n h.1 h.2.1 h.2.2.1 h.2.2.2 hn hn'
  refine ⟨v, h1, h2, Con.frame1 rfl h3 hm ?_ rfl rfl ?_ (Real.ptr (i := 0) rfl)⟩
  · exact renL_sound (k := 64) rfl
  · exact renV_sound (k := 64) rfl
theorem closedAll {m : Mem} (h : ∀ b ∈ m, b.cells.all inert = true) : Closed m := fun n b hn _ => .leaf (h b (List.mem_of_getElem? hn))
theorem drop_outB {k : IntKind} {ls : List Int} {j : Nat} (hj : j < ls.length) : List.drop (0 + (j : Int).toNat * 1) (outB k ls).cells = .int k ls[j] :: (ls.map (Value.int k)).drop (j + 1) := by
  rw [Nat.zero_add, Nat.mul_one, Int.toNat_natCast]
  show List.drop j (ls.map (Value.int k)) = _
  rw [List.drop_eq_getElem_cons (by simpa using hj)]
  simp
theorem ok105 : codeOk CT Try.f105 (Try.f105.body.get rfl) = true := by kernel_rfl
theorem d105 {s : List Int} {p : Int} (ls : List Int) (h : srcOk s p) (hl : 1 ≤ ls.length) (hl' : ls.length ≤ 1000) : ∃ v ∈ ls, Con CT 105 [.pointer (some ⟨0, 0, none⟩), ownAt 1 ls.length] [srcB s p, outB .i64 ls] (.int .i64 v) [srcB s (p + 1), outB .i64 ls] := by
  obtain ⟨v, h1, h2, h3⟩ := d106' (s := s) (p := p) ls.length [srcB s p, outB .i64 ls] 0 h (by omega) (by omega) rfl
  obtain ⟨j, rfl⟩ := Int.eq_ofNat_of_zero_le h1
  have hj : j < ls.length := by omega
  refine ⟨ls[j], List.getElem_mem hj, ?_⟩
  refine Con.of_sRunK (K := K69) (K3 := (Spec3.none.add 106 (conE CT 106 (fun _ _ => .int .i64 (j : Int)) (fun _ _ => [srcB s (p + 1), outB .i64 ls])))) (O := [(1, 106)]) (D := [(9, .int .i64 (j : Int)), (11, .int .i64 ls[j])]) (j := 400) CT_ok rfl K69_ok (by repeat' (first | exact Spec3OK.none | refine Spec3OK.add ?_ conE_ok)) (c := Try.f105.body.get rfl) Try.func105 rfl (Nat.le_of_ble_eq_true rfl) (by decide) ?_ ?_ rfl ok105 rfl ?_
  · exact Grow.set (m := [srcB s p, outB .i64 ls]) (n := 0) rfl rfl id id
  · exact closedAll fun b hb => by
      simp only [List.mem_cons, List.not_mem_nil, or_false] at hb
      rcases hb with rfl | rfl
      · rfl
      · exact outB_inert _ _
  · repeat' (first | with_reducible exact holds_none | with_reducible exact all_nil | with_reducible refine holds_some ?_ | with_reducible refine andP_intro ?_ ?_ | with_reducible refine condP_intro (fun h => ?_) (fun h => ?_) | with_reducible refine psP_intro ?_ | with_reducible refine all_append ?_ ?_ | with_reducible refine all_under (fun h => ?_) | with_reducible refine all_one ?_ | with_reducible refine all_cons ?_ ?_)
    all_goals first | exact (rfl : @Eq (List Value) _ _) | with_reducible exact le_goal (Nat.le_of_ble_eq_true rfl) | with_reducible exact fixd_goal rfl (Nat.le_of_ble_eq_true rfl) | (with_reducible refine hit_intro ?_ ?_ <;> (simp; done)) | exact (rfl : @Eq Value _ (Value.iface _ _)) | exact (rfl : @Eq Value _ (Value.agg _)) | (with_reducible refine veq_goal ?_; simp; done) | skip
    all_goals first | exact h3 | exact in_range hj | (show List.take 1 (List.drop (0 + (j : Int).toNat * 1) (outB .i64 ls).cells) = [Value.int .i64 (intOf ((List.drop (0 + (j : Int).toNat * 1) (outB .i64 ls).cells).getD 0 .nilFunc))]; rw [drop_outB hj]; rfl) | (show Value.int .i64 (intOf ((List.drop (0 + (j : Int).toNat * 1) (outB .i64 ls).cells).getD 0 .nilFunc)) = Value.int .i64 ls[j]; rw [drop_outB hj]; rfl) | exact Leaf.same CT_ok rfl | trace_state
theorem d105' {s : List Int} {p : Int} (ls : List Int) (m : Mem) (a c : Nat) (h : srcOk s p) (hl : 1 ≤ ls.length) (hl' : ls.length ≤ 1000) (hm : m[a]? = some (srcB s p)) (hm' : m[c]? = some (outB .i64 ls)) (hne : a ≠ c) : ∃ v ∈ ls, Con CT 105 [.pointer (some ⟨a, 0, none⟩), ownAt c ls.length] m (.int .i64 v) (m.set a (srcB s (p + 1))) := by
  obtain ⟨v, h1, h3⟩ := d105 (s := s) (p := p) ls h hl hl'
  refine ⟨v, h1, Con.frame2 rfl h3 hm hm' hne ?_ rfl rfl (outB_inert _ _) ?_ (Real.ptr (i := 0) rfl)⟩
  · exact renL_sound (k := 64) rfl
  · exact renV_sound (k := 64) rfl
theorem srcOk.next {s : List Int} {p : Int} (h : srcOk s p) (hp : p + 1 < 1099511627776) : srcOk s (p + 1) := ⟨h.1, h.2.1, by have := h.2.2.1; omega, hp⟩
theorem ok128 : codeOk CT Try.f128 (Try.f128.body.get rfl) = true := by kernel_rfl
set_option maxHeartbeats 4000000 in
theorem c128 (f : Int) : Fz CT 128 [.int .i64 f] (wayV ⟨f, 127, 21, 23, 4, 3, 22⟩) := by
  refine Fz.of_sRun (K := K69) (K3 := Spec3.none) (O := []) (D := []) (k := 400) (H := []) CT_ok rfl K69_ok Spec3OK.none (c := Try.f128.body.get rfl) Try.func128 rfl (Nat.le_of_ble_eq_true rfl) (by decide) rfl ok128 rfl ?_ ?_
  · repeat' (first | with_reducible exact holds_none | with_reducible exact all_nil | with_reducible refine holds_some ?_ | with_reducible refine andP_intro ?_ ?_ | with_reducible refine condP_intro (fun h => ?_) (fun h => ?_) | with_reducible refine psP_intro ?_ | with_reducible refine all_append ?_ ?_ | with_reducible refine all_under (fun h => ?_) | with_reducible refine all_one ?_ | with_reducible refine all_cons ?_ ?_)
    all_goals first | exact (rfl : @Eq (List Value) _ _) | with_reducible exact le_goal (Nat.le_of_ble_eq_true rfl) | with_reducible exact fixd_goal rfl (Nat.le_of_ble_eq_true rfl) | (with_reducible refine hit_intro ?_ ?_ <;> (simp; done)) | exact (rfl : @Eq Value _ (Value.iface _ _)) | exact (rfl : @Eq Value _ (Value.agg _)) | (with_reducible refine veq_goal ?_; simp; done) | skip
  · rfl
def K128 : Spec := Spec.add K69 128 (fam (fun (p : Int) => [.int .i64 p]) (fun v => intOf (v.getD 0 .nilFunc)) (fun (p : Int) => True) (fun (p : Int) => wayV ⟨p, 127, 21, 23, 4, 3, 22⟩))
theorem K128_ok : SpecOK CT K128 := SpecOK.add K69_ok (fam_ok fun p hp => c128 p)
theorem ok121 : codeOk CT Try.f121 (Try.f121.body.get rfl) = true := by kernel_rfl
set_option maxHeartbeats 4000000 in
theorem d121 {s : List Int} {p : Int} (h : srcOk s p) (hp : p + 2 < 1099511627776) : ∃ w : WayT, Con CT 121 [.pointer (some ⟨0, 0, none⟩)] [srcB s p] (wayV w) [srcB s (p + 2)] := by
  have z : Blk := ⟨(CT.ty 45).zero, 0, true, true⟩
  obtain ⟨v, _, _, h3⟩ := d106' (s := s) (p := p) 512 [srcB s p, ⟨(CT.ty 45).zero, 0, true, true⟩] 0 h (by omega) (by omega) rfl
  obtain ⟨f, _, h4⟩ := d105' (s := s) (p := p + 1) [511, 511, 507, v, 2, 510] [srcB s (p + 1), ⟨(CT.ty 45).zero, 0, true, true⟩, outB .i64 [511, 511, 507, v, 2, 510]] 0 2 (h.next (by omega)) (by simp) (by simp) rfl rfl (by omega)
  rw [show p + 1 + 1 = p + 2 by omega] at h4
  refine ⟨⟨f, 127, 21, 23, 4, 3, 22⟩, ?_⟩
  refine Con.of_sRunK (K := K128) (K3 := ((Spec3.none.add 106 (conE CT 106 (fun _ _ => .int .i64 v) (fun _ _ => [srcB s (p + 1), ⟨(CT.ty 45).zero, 0, true, true⟩]))).add 105 (conE CT 105 (fun _ _ => .int .i64 f) (fun _ _ => [srcB s (p + 2), ⟨(CT.ty 45).zero, 0, true, true⟩, outB .i64 [511, 511, 507, v, 2, 510]])))) (O := [(1, 106), (1, 105)]) (D := [(5, .int .i64 v), (7, .int .i64 f), (8, wayV ⟨f, 127, 21, 23, 4, 3, 22⟩)]) (j := 400) CT_ok rfl K128_ok (by repeat' (first | exact Spec3OK.none | refine Spec3OK.add ?_ conE_ok)) (c := Try.f121.body.get rfl) Try.func121 rfl (Nat.le_of_ble_eq_true rfl) (by decide) ?_ ?_ rfl ok121 rfl ?_
  · exact grow1 rfl rfl rfl
  · exact closed1 rfl
  · repeat' (first | with_reducible exact holds_none | with_reducible exact all_nil | with_reducible refine holds_some ?_ | with_reducible refine andP_intro ?_ ?_ | with_reducible refine condP_intro (fun h => ?_) (fun h => ?_) | with_reducible refine psP_intro ?_ | with_reducible refine all_append ?_ ?_ | with_reducible refine all_under (fun h => ?_) | with_reducible refine all_one ?_ | with_reducible refine all_cons ?_ ?_)
    all_goals first | exact (rfl : @Eq (List Value) _ _) | with_reducible exact le_goal (Nat.le_of_ble_eq_true rfl) | with_reducible exact fixd_goal rfl (Nat.le_of_ble_eq_true rfl) | (with_reducible refine hit_intro ?_ ?_ <;> (simp; done)) | exact (rfl : @Eq Value _ (Value.iface _ _)) | exact (rfl : @Eq Value _ (Value.agg _)) | (with_reducible refine veq_goal ?_; simp; done) | skip
    · exact h3
    · exact h4
    · exact Leaf.post1 CT_ok rfl rfl rfl rfl
end Go.Ab
