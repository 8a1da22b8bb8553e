/- Draws of ways and bytes. -/
import Derived.Test.YtkoahogalplhhaaC16
namespace Go.Ab
open Go.Proofs
set_option maxRecDepth 100000
set_option linter.unusedVariables false
set_option linter.unusedSimpArgs false
def bytesOk (d : List Int) : Prop := ∀ x ∈ d, 0 ≤ x ∧ x < 256
theorem bytesOk.snoc {d : List Int} {x : Int} (h : bytesOk d) (h0 : 0 ≤ x) (h1 : x < 256) : bytesOk (d ++ [x]) := by
  intro y hy
  simp only [List.mem_append, List.mem_singleton] at hy
  rcases hy with hy | rfl
  · exact h y hy
  · exact ⟨h0, h1⟩
theorem d122' {s : List Int} {p : Int} (n : Int) (m : Mem) (a : Nat) (h : srcOk s p) (hn : 1 ≤ n) (hn' : n ≤ 1048576) (hm : m[a]? = some (srcB s p)) : ∃ c : Bool, Con CT 122 [.pointer (some ⟨a, 0, none⟩), .int .i64 n] m (.bool c) (m.set a (srcB s (p + 1))) := by
  obtain ⟨c, h3⟩ := d122 (s := s) (p := p) n h hn hn'
  refine ⟨c, Con.frame1 rfl h3 hm ?_ rfl rfl ?_ (Real.ptr (i := 0) rfl)⟩
  · exact renL_sound (k := 64) rfl
  · exact renV_sound (k := 64) rfl
theorem ok102 : codeOk CT Try.f102 (Try.f102.body.get rfl) = true := by kernel_rfl
theorem l102 (s : List Int) : ∀ (k : Nat) (p : Int) (out : List Int), srcOk s p → p + k + 2 < 1099511627776 → out.length + k ≤ 9 → bytesOk out → ∃ (d : List Int) (p' : Int), p ≤ p' ∧ p' ≤ p + k + 1 ∧ d.length ≤ 1001 ∧ bytesOk d ∧
    Run CT 1 Try.f102 (atLoop Try.f102 0) [(0, .pointer (some ⟨0, 0, none⟩)), (3, ownAt 1 out.length), (4, .int .i64 k)] [srcB s p, outB .u8 out] (ownAt 1 d.length) [srcB s p', outB .u8 d] := by
  intro k
  induction k with
  | zero =>
    intro p out hs hp hl hb
    obtain ⟨c, h3⟩ := d122' (s := s) (p := p) 40 [srcB s p, outB .u8 out] 0 hs (by omega) (by omega) rfl
    cases c with
    | true =>
      refine ⟨List.replicate 1001 0, p + 1, by omega, by omega, by simp, fun x hx => by rw [(List.mem_replicate.1 hx).2]; omega, ?_⟩
      rw [show ownAt 1 (List.replicate 1001 (0 : Int)).length = ownAt 1 1001 by rw [List.length_replicate]]
      refine RunK.of_sRunK (K := K128) (K3 := (Spec3.none.add 122 (conE CT 122 (fun _ _ => .bool true) (fun _ _ => [srcB s (p + 1), outB .u8 out])))) (O := [(6, 122)]) (D := [(100009, .bool false), (20, .bool true), (100020, .bool true)]) CT_ok rfl K128_ok (by repeat' (first | exact Spec3OK.none | refine Spec3OK.add ?_ conE_ok)) (c := Try.f102.body.get rfl) rfl ok102 400 rfl ?_
      repeat' (first | with_reducible exact holds_none | with_reducible exact all_nil | with_reducible refine holds_some ?_ | with_reducible refine andP_intro ?_ ?_ | with_reducible refine condP_intro (fun h => ?_) (fun h => ?_) | with_reducible refine psP_intro ?_ | with_reducible refine all_append ?_ ?_ | with_reducible refine all_under (fun h => ?_) | with_reducible refine all_one ?_ | with_reducible refine all_cons ?_ ?_)
      all_goals first | exact (rfl : @Eq (List Value) _ _) | with_reducible exact le_goal (Nat.le_of_ble_eq_true rfl) | with_reducible exact fixd_goal rfl (Nat.le_of_ble_eq_true rfl) | (with_reducible refine hit_intro ?_ ?_ <;> (simp; done)) | exact (rfl : @Eq Value _ (Value.iface _ _)) | exact (rfl : @Eq Value _ (Value.agg _)) | (with_reducible refine veq_goal ?_; simp; done) | skip
      all_goals first | rfl | exact h3 | skip
      · refine ⟨by decide, by decide, ?_, by decide⟩
        show (1001 : Int) * ((1 : Nat) : Int) ≤ 281474976710656
        decide
      · refine Leaf.postL CT_ok rfl [0, 2] (by decide) rfl rfl (simB_leaf rfl rfl rfl rfl rfl rfl (simB_leaf rfl rfl rfl rfl ?_ (outB_inert _ _) simB_nil)) rfl rfl
        exact (zeros_one 1001 (.int .u8 0)).trans (by simp [outB])
    | false =>
      refine ⟨out, p + 1, by omega, by omega, by omega, hb, ?_⟩
      refine RunK.of_sRunK (K := K128) (K3 := (Spec3.none.add 122 (conE CT 122 (fun _ _ => .bool false) (fun _ _ => [srcB s (p + 1), outB .u8 out])))) (O := [(6, 122)]) (D := [(100009, .bool false), (20, .bool false), (100020, .bool false)]) CT_ok rfl K128_ok (by repeat' (first | exact Spec3OK.none | refine Spec3OK.add ?_ conE_ok)) (c := Try.f102.body.get rfl) rfl ok102 400 rfl ?_
      repeat' (first | with_reducible exact holds_none | with_reducible exact all_nil | with_reducible refine holds_some ?_ | with_reducible refine andP_intro ?_ ?_ | with_reducible refine condP_intro (fun h => ?_) (fun h => ?_) | with_reducible refine psP_intro ?_ | with_reducible refine all_append ?_ ?_ | with_reducible refine all_under (fun h => ?_) | with_reducible refine all_one ?_ | with_reducible refine all_cons ?_ ?_)
      all_goals first | exact (rfl : @Eq (List Value) _ _) | with_reducible exact le_goal (Nat.le_of_ble_eq_true rfl) | with_reducible exact fixd_goal rfl (Nat.le_of_ble_eq_true rfl) | (with_reducible refine hit_intro ?_ ?_ <;> (simp; done)) | exact (rfl : @Eq Value _ (Value.iface _ _)) | exact (rfl : @Eq Value _ (Value.agg _)) | (with_reducible refine veq_goal ?_; simp; done) | skip
      all_goals first | rfl | exact h3 | exact Leaf.same CT_ok rfl | trace_state
  | succ k ih =>
    intro p out hs hp hl hb
    have hp0 := hs.2.2.1
    obtain ⟨x, hx, h3⟩ := d105' (s := s) (p := p) [97, 98, 10, 13, 10] [srcB s p, outB .u8 out, outB .i64 [97, 98, 10, 13, 10]] 0 2 hs (by simp) (by simp) rfl rfl (by omega)
    have hx : IntKind.u8.wrap x = x ∧ 0 ≤ x ∧ x < 256 := by
      simp only [List.mem_cons, List.not_mem_nil, or_false] at hx
      rcases hx with rfl | rfl | rfl | rfl | rfl <;> decide
    obtain ⟨d, p', g1, g2, g3, g4, g5⟩ := ih (p + 1) (out ++ [x]) (hs.next (by omega)) (by push_cast at hp; omega) (by simp; omega) (hb.snoc hx.2.1 hx.2.2)
    refine ⟨d, p', by omega, by push_cast; omega, g3, g4, ?_⟩
    have hk : decide (((k + 1 : Nat) : Int) > 0) = true := decide_eq_true (by omega)
    refine RunK.of_sRunK (K := K128) (K3 := (Spec3.none.add 105 (conE CT 105 (fun _ _ => .int .i64 x) (fun _ _ => [srcB s (p + 1), outB .u8 out, outB .i64 [97, 98, 10, 13, 10]])))) (O := [(5, 105)]) (D := [(100009, .bool true), (15, .int .i64 x), (16, .int .u8 x), (11, .int .i64 (k : Int))]) CT_ok rfl K128_ok (by repeat' (first | exact Spec3OK.none | refine Spec3OK.add ?_ conE_ok)) (c := Try.f102.body.get rfl) rfl ok102 400 rfl ?_
    repeat' (first | with_reducible exact holds_none | with_reducible exact all_nil | with_reducible refine holds_some ?_ | with_reducible refine andP_intro ?_ ?_ | with_reducible refine condP_intro (fun h => ?_) (fun h => ?_) | with_reducible refine psP_intro ?_ | with_reducible refine all_append ?_ ?_ | with_reducible refine all_under (fun h => ?_) | with_reducible refine all_one ?_ | with_reducible refine all_cons ?_ ?_)
    all_goals first | exact (rfl : @Eq (List Value) _ _) | with_reducible exact le_goal (Nat.le_of_ble_eq_true rfl) | with_reducible exact fixd_goal rfl (Nat.le_of_ble_eq_true rfl) | (with_reducible refine hit_intro ?_ ?_ <;> (simp; done)) | exact (rfl : @Eq Value _ (Value.iface _ _)) | exact (rfl : @Eq Value _ (Value.agg _)) | (with_reducible refine veq_goal ?_; simp; done) | skip
    all_goals first | (with_reducible refine app_goal ?_ ?_ ?_ <;> simp [outB] <;> omega) | skip
    all_goals first | exact hk | exact h3 | exact congrArg (Value.int .u8) hx.1 | exact congrArg (Value.int .i64) ((wrap64 (by omega) (by omega)).trans (by omega)) | skip
    (refine RunK.norm1 rfl [0, 4] (by decide) rfl (by rfl) ?_ ?_ g5; focus (repeat' (first | with_reducible exact simT_nil | refine simT_cons rfl rfl ?_ ?_)) <;> (first | with_reducible rfl | with_reducible exact congrArg (Value.int .i64) (wrap_succ (by omega)) | exact (rfl : _ = Value.iface _ _) | exact (rfl : _ = Value.agg _) | exact (rfl : _ = Value.slice _ _ _) | exact (rfl : _ = Value.pointer _) | exact (rfl : Value.int .i64 0 = _) | (simp; done)))
    refine simB_leaf rfl rfl rfl rfl rfl rfl (simB_leaf rfl rfl rfl rfl ?_ (outB_inert _ _) simB_nil)
    simp [outB, List.take_of_length_le]
theorem d102 {s : List Int} {p : Int} (h : srcOk s p) (hp : p + 20 < 1099511627776) : ∃ (d : List Int) (p' : Int), p ≤ p' ∧ p' ≤ p + 20 ∧ d.length ≤ 1001 ∧ bytesOk d ∧
    Con CT 102 [.pointer (some ⟨0, 0, none⟩)] [srcB s p] (ownAt 1 d.length) [srcB s p', outB .u8 d] := by
  have hp0 := h.2.2.1
  obtain ⟨v, hv0, hv1, h3⟩ := d106' (s := s) (p := p) 9 [srcB s p, outB .u8 []] 0 h (by omega) (by omega) rfl
  obtain ⟨k, rfl⟩ := Int.eq_ofNat_of_zero_le hv0
  obtain ⟨d, p', g1, g2, g3, g4, g5⟩ := l102 s k (p + 1) [] (h.next (by omega)) (by omega) (by simp; omega) (fun x hx => by cases hx)
  refine ⟨d, p', by omega, by omega, g3, g4, ?_⟩
  refine Con.of_sRunK (K := K128) (K3 := (Spec3.none.add 106 (conE CT 106 (fun _ _ => .int .i64 (k : Int)) (fun _ _ => [srcB s (p + 1), outB .u8 []])))) (O := [(2, 106)]) (D := [(7, .int .i64 (k : Int))]) (j := 400) CT_ok rfl K128_ok (by repeat' (first | exact Spec3OK.none | refine Spec3OK.add ?_ conE_ok)) (c := Try.f102.body.get rfl) Try.func102 rfl (Nat.le_of_ble_eq_true rfl) (by decide) ?_ ?_ rfl ok102 rfl ?_
  · exact Grow.trans (m1 := [srcB s p']) (grow1 rfl rfl rfl) (Grow.snoc [srcB s p'] (outB .u8 d))
  · exact closed1 rfl
  · repeat' (first | with_reducible exact holds_none | with_reducible exact all_nil | with_reducible refine holds_some ?_ | with_reducible refine andP_intro ?_ ?_ | with_reducible refine condP_intro (fun h => ?_) (fun h => ?_) | with_reducible refine psP_intro ?_ | with_reducible refine all_append ?_ ?_ | with_reducible refine all_under (fun h => ?_) | with_reducible refine all_one ?_ | with_reducible refine all_cons ?_ ?_)
    all_goals first | exact (rfl : @Eq (List Value) _ _) | with_reducible exact le_goal (Nat.le_of_ble_eq_true rfl) | with_reducible exact fixd_goal rfl (Nat.le_of_ble_eq_true rfl) | (with_reducible refine hit_intro ?_ ?_ <;> (simp; done)) | exact (rfl : @Eq Value _ (Value.iface _ _)) | exact (rfl : @Eq Value _ (Value.agg _)) | (with_reducible refine veq_goal ?_; simp; done) | skip
    all_goals first | exact h3 | skip
    (refine RunK.norm1 rfl [0, 1] (by decide) rfl (by rfl) ?_ ?_ g5; focus (repeat' (first | with_reducible exact simT_nil | refine simT_cons rfl rfl ?_ ?_)) <;> (first | with_reducible rfl | with_reducible exact congrArg (Value.int .i64) (wrap_succ (by omega)) | exact (rfl : _ = Value.iface _ _) | exact (rfl : _ = Value.agg _) | exact (rfl : _ = Value.slice _ _ _) | exact (rfl : _ = Value.pointer _) | exact (rfl : Value.int .i64 0 = _) | (simp; done)))
    exact simB_leaf rfl rfl rfl rfl rfl rfl (simB_leaf rfl rfl rfl rfl rfl (outB_inert _ _) simB_nil)
theorem d102' {s : List Int} {p : Int} (m : Mem) (a : Nat) (h : srcOk s p) (hp : p + 20 < 1099511627776) (hm : m[a]? = some (srcB s p)) : ∃ (d : List Int) (p' : Int), p ≤ p' ∧ p' ≤ p + 20 ∧ d.length ≤ 1001 ∧ bytesOk d ∧
    Con CT 102 [.pointer (some ⟨a, 0, none⟩)] m (ownAt m.length d.length) (m.set a (srcB s p') ++ [outB .u8 d]) := by
  obtain ⟨d, p', g1, g2, g3, g4, g5⟩ := d102 (s := s) (p := p) h hp
  refine ⟨d, p', g1, g2, g3, g4, Con.frame1n rfl g5 hm ?_ rfl rfl (outB_inert _ _) ?_ (Real.ptr (i := 0) rfl)⟩
  · exact renL_sound (k := 64) rfl
  · exact renV_sound (k := 64) rfl
theorem d101' {s : List Int} {p : Int} (m : Mem) (a : Nat) (h : srcOk s p) (hp : p + 4 < 1099511627776) (hm : m[a]? = some (srcB s p)) : ∃ (w : WayT) (p' : Int), p ≤ p' ∧ p' ≤ p + 4 ∧ Con CT 101 [.pointer (some ⟨a, 0, none⟩)] m (wayV w) (m.set a (srcB s p')) := by
  obtain ⟨w, p', g1, g2, h3⟩ := d101 (s := s) (p := p) h hp
  refine ⟨w, p', g1, g2, Con.frame1 rfl h3 hm ?_ rfl rfl ?_ (Real.ptr (i := 0) rfl)⟩
  · exact renL_sound (k := 64) rfl
  · exact renV_sound (k := 64) rfl
theorem ok100 : codeOk CT Try.f100 (Try.f100.body.get rfl) = true := by kernel_rfl
theorem d100 (s : List Int) : Con CT 100 [intsV .u8 s] [z45] (.pointer (some ⟨1, 0, none⟩)) [z45, srcB s 0] := by
  refine Con.of_sRunK (K := K128) (K3 := Spec3.none) (O := []) (D := []) (j := 400) CT_ok rfl K128_ok Spec3OK.none (c := Try.f100.body.get rfl) Try.func100 rfl (Nat.le_of_ble_eq_true rfl) (by decide) ?_ ?_ rfl ok100 rfl ?_
  · exact Grow.snoc [z45] (srcB s 0)
  · exact closed1 rfl
  · repeat' (first | with_reducible exact holds_none | with_reducible exact all_nil | with_reducible refine holds_some ?_ | with_reducible refine andP_intro ?_ ?_ | with_reducible refine condP_intro (fun h => ?_) (fun h => ?_) | with_reducible refine psP_intro ?_ | with_reducible refine all_append ?_ ?_ | with_reducible refine all_under (fun h => ?_) | with_reducible refine all_one ?_ | with_reducible refine all_cons ?_ ?_)
    all_goals first | exact (rfl : @Eq (List Value) _ _) | with_reducible exact le_goal (Nat.le_of_ble_eq_true rfl) | with_reducible exact fixd_goal rfl (Nat.le_of_ble_eq_true rfl) | (with_reducible refine hit_intro ?_ ?_ <;> (simp; done)) | exact (rfl : @Eq Value _ (Value.iface _ _)) | exact (rfl : @Eq Value _ (Value.agg _)) | (with_reducible refine veq_goal ?_; simp; done) | skip
    all_goals first | exact Leaf.same CT_ok rfl | trace_state
theorem ok50 : codeOk CT Try.f50 (Try.f50.body.get rfl) = true := by kernel_rfl
theorem d50 (s : List Int) (hs : s.length ≤ 1048576) (hb : bytesOk s) : ∃ (w : WayT) (d : List Int), d.length ≤ 1001 ∧ bytesOk d ∧ Fz CT 50 [intsV .u8 s] (.tuple #[wayV w, intsV .u8 d]) := by
  have h0 : srcOk s 0 := ⟨hs, hb, by omega, by omega⟩
  have q100 := d100 s
  obtain ⟨w, p1, a1, a2, q101⟩ := d101' (s := s) (p := 0) [z45, srcB s 0] 1 h0 (by omega) rfl
  have h1 : srcOk s p1 := ⟨hs, hb, a1, by omega⟩
  obtain ⟨d, p2, b1, b2, b3, b4, q102⟩ := d102' (s := s) (p := p1) [z45, srcB s p1] 1 h1 (by omega) rfl
  refine ⟨w, d, b3, b4, ?_⟩
  refine Fz.of_sRun (K := K128) (K3 := (((Spec3.none.add 100 (conE CT 100 (fun _ _ => .pointer (some ⟨1, 0, none⟩)) (fun _ _ => [z45, srcB s 0]))).add 101 (conE CT 101 (fun _ _ => wayV w) (fun _ _ => [z45, srcB s p1]))).add 102 (conE CT 102 (fun _ _ => ownAt 2 d.length) (fun _ _ => [z45, srcB s p2, outB .u8 d])))) (O := [(1, 100), (2, 101), (2, 102)]) (D := [(8, wayV w), (10, ownAt 2 d.length)]) (k := 400) (H := []) CT_ok rfl K128_ok (by repeat' (first | exact Spec3OK.none | refine Spec3OK.add ?_ conE_ok)) (c := Try.f50.body.get rfl) Try.func50 rfl (Nat.le_of_ble_eq_true rfl) (by decide) rfl ok50 rfl ?_ ?_
  · repeat' (first | with_reducible exact holds_none | with_reducible exact all_nil | with_reducible refine holds_some ?_ | with_reducible refine andP_intro ?_ ?_ | with_reducible refine condP_intro (fun h => ?_) (fun h => ?_) | with_reducible refine psP_intro ?_ | with_reducible refine all_append ?_ ?_ | with_reducible refine all_under (fun h => ?_) | with_reducible refine all_one ?_ | with_reducible refine all_cons ?_ ?_)
    all_goals first | exact (rfl : @Eq (List Value) _ _) | with_reducible exact le_goal (Nat.le_of_ble_eq_true rfl) | with_reducible exact fixd_goal rfl (Nat.le_of_ble_eq_true rfl) | (with_reducible refine hit_intro ?_ ?_ <;> (simp; done)) | exact (rfl : @Eq Value _ (Value.iface _ _)) | exact (rfl : @Eq Value _ (Value.agg _)) | (with_reducible refine veq_goal ?_; simp; done) | skip
    all_goals first | exact q100 | exact q101 | exact q102 | exact outB_goal rfl | trace_state
  · exact congrArg (fun v => Value.tuple #[wayV w, v]) (outB_val _ _)
end Go.Ab
