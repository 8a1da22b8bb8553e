/- Draws of ways and bytes. -/
import Derived.Test.YtkoahogalplhhaaC15
namespace Go.Ab
open Go.Proofs
set_option maxRecDepth 100000
set_option linter.unusedVariables false
set_option linter.unusedSimpArgs false
section
variable {C : Cfg} {fn : Func} {T T0 : Tm} {m m0 M : Mem} {v V : Value}
theorem RunK.norm1 (hG : C.G = 0) (ns : List Nat) (hn : ns.Nodup) (h0 : ns[0]? = some 0) {todo : List Item} (he : m0[0]? = m[0]?) (hT : SimT inert (fun i => ns[i]?) T T0) (hM : SimB (fun i => ns[i]?) m ns m0) (h : Run C 1 fn todo T0 m0 V M) : Run C 1 fn todo T m V M :=
  Run.norm _ hT (hM.simM hn) (fun n hn => by obtain rfl : n = 0 := (by omega); exact ⟨h0, .inl he⟩) (by omega) h
/-- The end of a call that has written to its one block and made others. -/
theorem Leaf.postL (hC : CfgOK C) (h : resultA C fn m T = some v) (ns : List Nat) (hn : ns.Nodup) (h0 : ns[0]? = some 0) (he : M[0]? = m[0]?) (hM : SimB (fun i => ns[i]?) m ns M) {v1 : Value} (hr : renV 64 inert (fun i => ns[i]?) V = some v1) (e : v = v1) : Leaf C 1 fn V M T m := by
  subst e
  have hk : ∀ n, n < 1 → (fun i => ns[i]?) n = some n ∧ M[n]? = m[n]? := by
    intro n hn
    obtain rfl : n = 0 := by omega
    exact ⟨h0, he⟩
  exact ⟨fun _ => Run.postK (hM.simM hn) (renV_sound hr) hk (.ret hC h), Run.postK (hM.simM hn) (renV_sound hr) hk (.end hC h)⟩
end
/-- A call that writes to one of the caller's blocks and makes one. -/
theorem Con.frame1n {C : Cfg} {f : FuncId} {args0 args : List Value} {b0 b1 c : Blk} {v0 v : Value} {m : Mem} {n : Nat} (h0 : C.G = 0) (h : Con C f args0 [b0] v0 [b1, c]) (hn : m[n]? = some b0) (hargs : RNL inert (at1 n) args0 args)
    (hc0 : b0.cells.all inert = true) (hc1 : b1.cells.all inert = true) (hc : c.cells.all inert = true) (hv : RN inert (at2 n m.length) v0 v) (hreal : Real m args n) : Con C f args m v (m.set n b1 ++ [c]) := by
  have hlt := (List.getElem?_eq_some_iff.1 hn).1
  have S : SimM inert (at1 n) [b0] m := by
    refine ⟨fun a b d h1 h2 => ?_, fun a b h1 => ?_, fun a b d h1 h2 => ?_⟩
    · rw [(at1_some h1).1, (at1_some h2).1]
    · rw [(at1_some h1).1]; simp
    · obtain ⟨rfl, rfl⟩ := at1_some h2
      simp at h1
      subst h1
      exact ⟨b0, hn, rfl, rfl, rfl, fun _ => .leaf hc0⟩
  have hm' : more (at1 n) [b0].length [b1, c].length m.length = at2 n m.length := by
    funext i
    unfold more at1 at2
    simp only [List.length_cons, List.length_nil]
    by_cases h1 : i = 0
    · subst h1; rfl
    · by_cases h2 : i = 1
      · subst h2; rfl
      · rw [if_neg (by omega), if_neg (by omega), if_neg (by omega), if_neg (by omega)]
  refine Con.frame h S (fun g hg => by omega) hargs (by simp) (fun i hi hk => ?_) (fun i j b h1 h2 => ?_) (by rw [hm']; exact hv) (fun k j hk => ?_)
  · rw [List.getElem?_append_left (by simpa using hi), List.getElem?_set_ne]
    rintro rfl
    exact hk 0 (by simp [at1])
  · rw [hm'] at h2 ⊢
    rcases at2_some h2 with ⟨rfl, rfl⟩ | ⟨rfl, rfl⟩
    · simp at h1
      subst h1
      exact ⟨b1, by rw [List.getElem?_append_left (by simpa using hlt), List.getElem?_set_self hlt], rfl, rfl, rfl, fun _ => .leaf hc1⟩
    · simp at h1
      subst h1
      exact ⟨c, by rw [List.getElem?_append_right (by simp)]; simp, rfl, rfl, rfl, fun _ => .leaf hc⟩
  · obtain ⟨rfl, rfl⟩ := at1_some hk
    exact .inr hreal

theorem ok122 : codeOk CT Try.f122 (Try.f122.body.get rfl) = true := by kernel_rfl
theorem d122 {s : List Int} {p : Int} (n : Int) (h : srcOk s p) (hn : 1 ≤ n) (hn' : n ≤ 1048576) : ∃ c : Bool, Con CT 122 [.pointer (some ⟨0, 0, none⟩), .int .i64 n] [srcB s p] (.bool c) [srcB s (p + 1)] := by
  obtain ⟨v, _, _, h3⟩ := d106' (s := s) (p := p) n [srcB s p] 0 h hn hn' rfl
  refine ⟨v == 0, ?_⟩
  refine Con.of_sRunK (K := K128) (K3 := (Spec3.none.add 106 (conE CT 106 (fun _ _ => .int .i64 v) (fun _ _ => [srcB s (p + 1)])))) (O := [(1, 106)]) (D := []) (j := 400) CT_ok rfl K128_ok (by repeat' (first | exact Spec3OK.none | refine Spec3OK.add ?_ conE_ok)) (c := Try.f122.body.get rfl) Try.func122 rfl (Nat.le_of_ble_eq_true rfl) (by decide) ?_ ?_ rfl ok122 rfl ?_
  · exact grow1 rfl rfl rfl
  · exact closed1 rfl
  · repeat' (first | with_reducible exact holds_none | with_reducible exact all_nil | with_reducible refine holds_some ?_ | with_reducible refine andP_intro ?_ ?_ | with_reducible refine condP_intro (fun h => ?_) (fun h => ?_) | with_reducible refine psP_intro ?_ | with_reducible refine all_append ?_ ?_ | with_reducible refine all_under (fun h => ?_) | with_reducible refine all_one ?_ | with_reducible refine all_cons ?_ ?_)
    all_goals first | exact (rfl : @Eq (List Value) _ _) | with_reducible exact le_goal (Nat.le_of_ble_eq_true rfl) | with_reducible exact fixd_goal rfl (Nat.le_of_ble_eq_true rfl) | (with_reducible refine hit_intro ?_ ?_ <;> (simp; done)) | exact (rfl : @Eq Value _ (Value.iface _ _)) | exact (rfl : @Eq Value _ (Value.agg _)) | (with_reducible refine veq_goal ?_; simp; done) | skip
    all_goals first | exact h3 | exact Leaf.post1 CT_ok rfl rfl rfl rfl | trace_state
theorem d121' {s : List Int} {p : Int} (m : Mem) (a : Nat) (h : srcOk s p) (hp : p + 2 < 1099511627776) (hm : m[a]? = some (srcB s p)) : ∃ w : WayT, Con CT 121 [.pointer (some ⟨a, 0, none⟩)] m (wayV w) (m.set a (srcB s (p + 2))) := by
  obtain ⟨w, h3⟩ := d121 (s := s) (p := p) h hp
  refine ⟨w, Con.frame1 rfl h3 hm ?_ rfl rfl ?_ (Real.ptr (i := 0) rfl)⟩
  · exact renL_sound (k := 64) rfl
  · exact renV_sound (k := 64) rfl
abbrev z45 : Blk := ⟨[.int .i64 0, .int .i64 0, .int .i64 0, .int .i64 0, .int .i64 0, .int .i64 0, .int .i64 0], 0, true, true⟩
theorem ok101 : codeOk CT Try.f101 (Try.f101.body.get rfl) = true := by kernel_rfl
theorem d101 {s : List Int} {p : Int} (h : srcOk s p) (hp : p + 4 < 1099511627776) : ∃ (w : WayT) (p' : Int), p ≤ p' ∧ p' ≤ p + 4 ∧ Con CT 101 [.pointer (some ⟨0, 0, none⟩)] [srcB s p] (wayV w) [srcB s p'] := by
  have hp0 := h.2.2.1
  obtain ⟨w, h3⟩ := d121' (s := s) (p := p) [srcB s p, z45] 0 h (by omega) rfl
  have hs2 : srcOk s (p + 2) := ⟨h.1, h.2.1, by omega, by omega⟩
  have hs3 : srcOk s (p + 3) := ⟨h.1, h.2.1, by omega, by omega⟩
  obtain ⟨v, _, _, h4⟩ := d106' (s := s) (p := p + 2) 12 [srcB s (p + 2), z45, mWay w] 0 hs2 (by omega) (by omega) rfl
  rw [show p + 2 + 1 = p + 3 by omega] at h4
  obtain ⟨f, _, h5⟩ := d105' (s := s) (p := p + 3) [-1, 512] [srcB s (p + 3), z45, mWay w, outB .i64 [-1, 512]] 0 3 hs3 (by simp) (by simp) rfl rfl (by omega)
  obtain ⟨e, _, h6⟩ := d105' (s := s) (p := p + 3) [0, 8, 256, -1] [srcB s (p + 3), z45, mWay w, outB .i64 [0, 8, 256, -1]] 0 3 hs3 (by simp) (by simp) rfl rfl (by omega)
  rw [show p + 3 + 1 = p + 4 by omega] at h5 h6
  cases c1 : v == 0 with
  | true =>
    refine ⟨{ w with f := f }, p + 4, by omega, by omega, ?_⟩
    refine Con.of_sRunK (K := K128) (K3 := (((Spec3.none.add 121 (conE CT 121 (fun _ _ => wayV w) (fun _ _ => [srcB s (p + 2), z45]))).add 106 (conE CT 106 (fun _ _ => .int .i64 v) (fun _ _ => [srcB s (p + 3), z45, mWay w]))).add 105 (conE CT 105 (fun _ _ => .int .i64 f) (fun _ _ => [srcB s (p + 4), z45, mWay w, outB .i64 [-1, 512]])))) (O := [(1, 121), (2, 106), (4, 105)]) (D := [(100008, .bool true), (5, wayV w), (7, .int .i64 v), (12, .int .i64 f)]) (j := 400) CT_ok rfl K128_ok (by repeat' (first | exact Spec3OK.none | refine Spec3OK.add ?_ conE_ok)) (c := Try.f101.body.get rfl) Try.func101 rfl (Nat.le_of_ble_eq_true rfl) (by decide) ?_ ?_ rfl ok101 rfl ?_
    · exact grow1 rfl rfl rfl
    · exact closed1 rfl
    · repeat' (first | with_reducible exact holds_none | with_reducible exact all_nil | with_reducible refine holds_some ?_ | with_reducible refine andP_intro ?_ ?_ | with_reducible refine condP_intro (fun h => ?_) (fun h => ?_) | with_reducible refine psP_intro ?_ | with_reducible refine all_append ?_ ?_ | with_reducible refine all_under (fun h => ?_) | with_reducible refine all_one ?_ | with_reducible refine all_cons ?_ ?_)
      all_goals first | exact (rfl : @Eq (List Value) _ _) | with_reducible exact le_goal (Nat.le_of_ble_eq_true rfl) | with_reducible exact fixd_goal rfl (Nat.le_of_ble_eq_true rfl) | (with_reducible refine hit_intro ?_ ?_ <;> (simp; done)) | exact (rfl : @Eq Value _ (Value.iface _ _)) | exact (rfl : @Eq Value _ (Value.agg _)) | (with_reducible refine veq_goal ?_; simp; done) | skip
      all_goals first | assumption | exact h3 | exact h4 | exact h5 | exact Leaf.post1 CT_ok rfl rfl rfl rfl | trace_state
  | false =>
    cases c2 : v == 1 with
    | true =>
      refine ⟨{ w with e := e }, p + 4, by omega, by omega, ?_⟩
      refine Con.of_sRunK (K := K128) (K3 := (((Spec3.none.add 121 (conE CT 121 (fun _ _ => wayV w) (fun _ _ => [srcB s (p + 2), z45]))).add 106 (conE CT 106 (fun _ _ => .int .i64 v) (fun _ _ => [srcB s (p + 3), z45, mWay w]))).add 105 (conE CT 105 (fun _ _ => .int .i64 e) (fun _ _ => [srcB s (p + 4), z45, mWay w, outB .i64 [0, 8, 256, -1]])))) (O := [(1, 121), (2, 106), (6, 105)]) (D := [(100008, .bool false), (100014, .bool true), (5, wayV w), (7, .int .i64 v), (18, .int .i64 e)]) (j := 400) CT_ok rfl K128_ok (by repeat' (first | exact Spec3OK.none | refine Spec3OK.add ?_ conE_ok)) (c := Try.f101.body.get rfl) Try.func101 rfl (Nat.le_of_ble_eq_true rfl) (by decide) ?_ ?_ rfl ok101 rfl ?_
      · exact grow1 rfl rfl rfl
      · exact closed1 rfl
      · repeat' (first | with_reducible exact holds_none | with_reducible exact all_nil | with_reducible refine holds_some ?_ | with_reducible refine andP_intro ?_ ?_ | with_reducible refine condP_intro (fun h => ?_) (fun h => ?_) | with_reducible refine psP_intro ?_ | with_reducible refine all_append ?_ ?_ | with_reducible refine all_under (fun h => ?_) | with_reducible refine all_one ?_ | with_reducible refine all_cons ?_ ?_)
        all_goals first | exact (rfl : @Eq (List Value) _ _) | with_reducible exact le_goal (Nat.le_of_ble_eq_true rfl) | with_reducible exact fixd_goal rfl (Nat.le_of_ble_eq_true rfl) | (with_reducible refine hit_intro ?_ ?_ <;> (simp; done)) | exact (rfl : @Eq Value _ (Value.iface _ _)) | exact (rfl : @Eq Value _ (Value.agg _)) | (with_reducible refine veq_goal ?_; simp; done) | skip
        all_goals first | assumption | exact h3 | exact h4 | exact h6 | exact Leaf.post1 CT_ok rfl rfl rfl rfl | trace_state
    | false =>
      refine ⟨w, p + 3, by omega, by omega, ?_⟩
      refine Con.of_sRunK (K := K128) (K3 := ((Spec3.none.add 121 (conE CT 121 (fun _ _ => wayV w) (fun _ _ => [srcB s (p + 2), z45]))).add 106 (conE CT 106 (fun _ _ => .int .i64 v) (fun _ _ => [srcB s (p + 3), z45, mWay w])))) (O := [(1, 121), (2, 106)]) (D := [(100008, .bool false), (100014, .bool false), (5, wayV w), (7, .int .i64 v)]) (j := 400) CT_ok rfl K128_ok (by repeat' (first | exact Spec3OK.none | refine Spec3OK.add ?_ conE_ok)) (c := Try.f101.body.get rfl) Try.func101 rfl (Nat.le_of_ble_eq_true rfl) (by decide) ?_ ?_ rfl ok101 rfl ?_
      · exact grow1 rfl rfl rfl
      · exact closed1 rfl
      · repeat' (first | with_reducible exact holds_none | with_reducible exact all_nil | with_reducible refine holds_some ?_ | with_reducible refine andP_intro ?_ ?_ | with_reducible refine condP_intro (fun h => ?_) (fun h => ?_) | with_reducible refine psP_intro ?_ | with_reducible refine all_append ?_ ?_ | with_reducible refine all_under (fun h => ?_) | with_reducible refine all_one ?_ | with_reducible refine all_cons ?_ ?_)
        all_goals first | exact (rfl : @Eq (List Value) _ _) | with_reducible exact le_goal (Nat.le_of_ble_eq_true rfl) | with_reducible exact fixd_goal rfl (Nat.le_of_ble_eq_true rfl) | (with_reducible refine hit_intro ?_ ?_ <;> (simp; done)) | exact (rfl : @Eq Value _ (Value.iface _ _)) | exact (rfl : @Eq Value _ (Value.agg _)) | (with_reducible refine veq_goal ?_; simp; done) | skip
        all_goals first | assumption | exact h3 | exact h4 | exact Leaf.post1 CT_ok rfl rfl rfl rfl | trace_state
end Go.Ab
