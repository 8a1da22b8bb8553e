/- What the functions of the program answer, for all arguments that the theorems name as conditions. -/
import Derived.Test.YtkfbpdbopkdnjaaS11Me
import Derived.Test.YtkfbpdbopkdnjaaFD
set_option linter.unusedVariables false
set_option linter.unusedSimpArgs false
namespace Go.Ab
set_option maxHeartbeats 4000000

/-! ## A call on a line in a box, with another block between -/
abbrev lbB (k a len c : Nat) (cur : List Int) (t : Bool) (m : Int) : Blk := blk [slQ k a len c, edV (k + 1) cur, .bool t, .int .i64 m]
theorem OkM.retS {m : Mem} (H : OkM m) (hK : m.length + 1 + nms m < 4194304) {z o n c : Nat} (hz : z < m.length) (pv : List Value) : retK m.length m pv (slQ z o n c) = some (slQ z o n c, m) := by
  have hp : preB 0 m.length (List.range m.length) = true := by
    have := pre_range' m.length 0 []
    rwa [List.append_nil, ← List.range_eq_range'] at this
  have hr : rnV 8 inert (ixOf (List.range m.length)) (slQ z o n c) = some (slQ z o n c) := by
    rw [rn_inert_sl, ixOf_get List.nodup_range (List.getElem?_range hz)]
    rfl
  rw [retK_eq, show nmV 8 (slQ z o n c) = [z] from rfl, H.reach [z] (by simpa using hz) (by simpa using hK), bo_some, if_pos ⟨hp, by rw [H.ent]; simp⟩, hr, bo_some, H.loc, bo_some]
theorem edM_own (cur : List Int) : ∀ b ∈ edM cur, ∃ l : List Int, b = ownB eU8 l := by
  intro b hb
  unfold edM at hb
  split at hb
  · cases hb
  · exact ⟨cur, by simpa using hb⟩
theorem own_all (cur : List Int) (es : List (El Int)) : ∀ i, i < (edM cur ++ famM eU8 es).length → ∃ l : List Int, (edM cur ++ famM eU8 es)[i]? = some (ownB eU8 l) := by
  intro i hi
  have hm := List.getElem_mem hi
  rw [List.getElem?_eq_getElem hi]
  rcases List.mem_append.1 hm with h | h
  · obtain ⟨l, e⟩ := edM_own cur _ h
    exact ⟨l, by rw [e]⟩
  · obtain ⟨j, hj, e⟩ := List.getElem_of_mem h
    obtain ⟨l, e2⟩ := fam_own eU8 es j _ (List.getElem?_eq_getElem hj)
    exact ⟨l, by rw [← e, e2]⟩
theorem nd2 {a b k n : Nat} (h1 : a < b) (h2 : b < k) : (a :: b :: List.range' k n).Nodup := by
  refine List.nodup_cons.2 ⟨fun h => ?_, List.nodup_cons.2 ⟨fun h => ?_, List.nodup_range'⟩⟩
  · rcases List.mem_cons.1 h with h | h
    · omega
    · rw [mem_range'] at h; omega
  · rw [mem_range'] at h; omega
theorem nd4 {a b c k n : Nat} (h1 : a < b) (h2 : b < c) (h3 : c < k) : (a :: b :: c :: List.range' k n).Nodup := by
  refine List.nodup_cons.2 ⟨fun h => ?_, nd2 h2 h3⟩
  rcases List.mem_cons.1 h with h | h
  · omega
  · rcases List.mem_cons.1 h with h | h
    · omega
    · rw [mem_range'] at h; omega
theorem line_reach (A0 A1 o3 : Blk) (a len c : Nat) (cur : List Int) (t : Bool) (m : Int) (es : List (El Int)) (hok : ∀ e ∈ es, e.ok eU8) (hn : famN es < 4000000) :
    reachF 4194304 (A0 :: A1 :: lbB 4 a len c cur t m :: o3 :: famB (5 + (edM cur).length) 1 es :: (edM cur ++ famM eU8 es)) [2] [] = some (2 :: 4 :: List.range' 5 ((edM cur).length + famN es)) ∧
    locM (A0 :: A1 :: lbB 4 a len c cur t m :: o3 :: famB (5 + (edM cur).length) 1 es :: (edM cur ++ famM eU8 es)) (2 :: 4 :: List.range' 5 ((edM cur).length + famN es)) (2 :: 4 :: List.range' 5 ((edM cur).length + famN es)) = some (lbB 1 a len c cur t m :: famB (2 + (edM cur).length) 1 es :: (edM cur ++ famM eU8 es)) := by
  by_cases hd : cur = []
  · subst hd
    have e0 : edM [] = [] := rfl
    rw [e0]
    simp only [List.length_nil, Nat.add_zero, Nat.zero_add, List.nil_append]
    have H : Fam eU8 (A0 :: A1 :: lbB 4 a len c [] t m :: o3 :: famB 5 1 es :: famM eU8 es) 4 1 (List.range' 5 (famN es)) es := Fam.of_row eU8 rfl (fun i x h => by rw [show 5 + i = i + 1 + 1 + 1 + 1 + 1 by omega]; exact h) (by omega) hok
    have hnm : nmB (famB 5 1 es) = List.range' 5 (famN es) := by
      have := H.nmB
      rwa [famI_range] at this
    constructor
    · rw [reach_one (n := 2) (b := lbB 4 a len c [] t m) (l := [4]) rfl (by simp) (by simp [edV]), List.nil_append, reach_one (n := 4) (b := famB 5 1 es) rfl (by simp) hnm, List.nil_append]
      exact H.tail eU8 [2, 4] (fun n hn => by rw [mem_range'] at hn; simp; omega) (by simp; omega)
    · have hl2 : locB (2 :: 4 :: List.range' 5 (famN es)) (lbB 4 a len c [] t m) = some (lbB 1 a len c [] t m) := by simp [edV]
      have hl4 : locB (2 :: 4 :: List.range' 5 (famN es)) (famB 5 1 es) = some (famB 2 1 es) := by
        have := H.locO eU8 (pre := [2, 4]) (nd2 (by omega) (by omega))
        rwa [famI_range] at this
      rw [loc_one (n := 2) rfl hl2, loc_one (n := 4) rfl hl4, H.locI]
      rfl
  · have e0 : edM cur = [ownB eU8 cur] := by unfold edM; rw [if_neg hd]
    have e1 : ∀ k, edV k cur = slO k cur.length := fun k => by unfold edV; rw [if_neg hd]
    have eL : ∀ k, lbB k a len c cur t m = blk [slQ k a len c, slO (k + 1) cur.length, .bool t, .int .i64 m] := fun k => by
      show blk [slQ k a len c, edV (k + 1) cur, .bool t, .int .i64 m] = _
      rw [e1]
    rw [e0, eL 4, eL 1]
    simp only [List.length_singleton, List.singleton_append, show 5 + 1 = 6 from rfl, show 2 + 1 = 3 from rfl, show 1 + 1 = 2 from rfl, show 4 + 1 = 5 from rfl]
    have H : Fam eU8 (A0 :: A1 :: blk [slQ 4 a len c, slO 5 cur.length, .bool t, .int .i64 m] :: o3 :: famB 6 1 es :: ownB eU8 cur :: famM eU8 es) 4 1 (List.range' 6 (famN es)) es := Fam.of_row eU8 rfl (fun i x h => by rw [show 6 + i = i + 1 + 1 + 1 + 1 + 1 + 1 by omega]; exact h) (by omega) hok
    have hnm : nmB (famB 6 1 es) = List.range' 6 (famN es) := by
      have := H.nmB
      rwa [famI_range] at this
    have er : List.range' 5 (1 + famN es) = 5 :: List.range' 6 (famN es) := by rw [Nat.add_comm, List.range'_succ]
    rw [er]
    constructor
    · rw [reach_one (n := 2) (b := blk [slQ 4 a len c, slO 5 cur.length, .bool t, .int .i64 m]) (l := [4, 5]) rfl (by simp) (by simp), List.nil_append, reach_one (n := 4) (b := famB 6 1 es) rfl (by simp) hnm, List.cons_append, reach_one (n := 5) (b := ownB eU8 cur) (l := []) rfl (by simp) (by simp), List.append_nil]
      exact H.tail eU8 [2, 4, 5] (fun n hn => by rw [mem_range'] at hn; simp; omega) (by simp; omega)
    · have hl2 : locB (2 :: 4 :: 5 :: List.range' 6 (famN es)) (blk [slQ 4 a len c, slO 5 cur.length, .bool t, .int .i64 m]) = some (blk [slQ 1 a len c, slO 2 cur.length, .bool t, .int .i64 m]) := by simp
      have hl4 : locB (2 :: 4 :: 5 :: List.range' 6 (famN es)) (famB 6 1 es) = some (famB 3 1 es) := by
        have := H.locO eU8 (pre := [2, 4, 5]) (nd4 (by omega) (by omega) (by omega))
        rwa [famI_range] at this
      rw [loc_one (n := 2) rfl hl2, loc_one (n := 4) rfl hl4, loc_one (n := 5) rfl (locB_own eU8 _ cur), H.locI]
      rfl
end Go.Ab
namespace Go.Ab
set_option maxHeartbeats 4000000

/-! ## (*Line).next -/
theorem okM_line (a len c : Nat) (cur : List Int) (t : Bool) (m : Int) (es : List (El Int)) (hok : ∀ e ∈ es, e.ok eU8) : OkM (lbB 1 a len c cur t m :: famB (2 + (edM cur).length) 1 es :: (edM cur ++ famM eU8 es)) := by
  have hlen : (lbB 1 a len c cur t m :: famB (2 + (edM cur).length) 1 es :: (edM cur ++ famM eU8 es)).length = (edM cur).length + famN es + 2 := by simp
  intro b hb
  rw [hlen]
  rcases List.mem_cons.1 hb with rfl | hb
  · have h1 : ixOf (List.range ((edM cur).length + famN es + 2)) 1 = some 1 := ixOf_get List.nodup_range (List.getElem?_range (by omega))
    by_cases hd : cur = []
    · refine ⟨rfl, ?_, ?_⟩
      · generalize List.range ((edM cur).length + famN es + 2) = RR at *
        subst hd
        simp [edV, h1]
      · simp [edV, hd, edM]
    · have h2 : ixOf (List.range ((edM cur).length + famN es + 2)) 2 = some 2 := ixOf_get List.nodup_range (List.getElem?_range (by unfold edM; rw [if_neg hd]; simp; omega))
      refine ⟨rfl, ?_, ?_⟩
      · generalize List.range ((edM cur).length + famN es + 2) = RR at *
        simp [edV, hd, h1, h2]
      · simp [edV, hd, edM]
        omega
  · rcases List.mem_cons.1 hb with rfl | hb
    · exact famB_ok eU8 hok (by omega)
    · rcases List.mem_append.1 hb with h | h
      · obtain ⟨l, rfl⟩ := edM_own cur _ h
        exact own_ok eU8 l
      · exact famM_ok eU8 es b h
theorem nms_line (a len c : Nat) (cur : List Int) (t : Bool) (m : Int) (es : List (El Int)) (hok : ∀ e ∈ es, e.ok eU8) : nms (lbB 1 a len c cur t m :: famB (2 + (edM cur).length) 1 es :: (edM cur ++ famM eU8 es)) ≤ famN es + 2 := by
  have h1 : (nmB (lbB 1 a len c cur t m)).length ≤ 2 := by
    unfold lbB edV
    by_cases hd : cur = [] <;> simp [hd]
  have h2 : (nmB (famB (2 + (edM cur).length) 1 es)).length = famN es := by
    have := nmB_famI eU8 es (List.range' (2 + (edM cur).length) (famN es)) 1 true (by simp) hok
    rw [famI_range] at this
    show (nmB ⟨famX (2 + (edM cur).length) es, 1, true, true⟩).length = _
    rw [this]
    simp
  have h3 : nms (edM cur) = 0 := by
    unfold edM
    split
    · rfl
    · simp [nms]
  rw [nms_cons, nms_cons, nms_app, nms_fam, h2, h3]
  omega
theorem edM_le (cur : List Int) : (edM cur).length ≤ 1 := by unfold edM; split <;> simp
def elU (x : List Int) : El Int := ⟨[], if x = [] then .no (roS 0 []) else .ow x [] [] 0 0, []⟩
def elH (x : List Int) (k : Nat) : El Int := ⟨[], .ow (x.take k) (x.drop k) [] k (x.length - k), []⟩
theorem elU_ok (x : List Int) : (elU x).ok eU8 := by
  refine ⟨rfl, rfl, ?_⟩
  unfold elU
  split
  · exact .inr rfl
  · exact fun h => absurd rfl h
theorem elH_ok (x : List Int) (k : Nat) (h : k < x.length) : (elH x k).ok eU8 := ⟨rfl, rfl, fun _ => by simp [elH]; omega⟩
/-- The slice of what is left behind one piece. -/
def tlS (k a l : Nat) : Value := if l = 0 then slQ k a 0 0 else slQ k (a + 1) l l
abbrev lbV (w : Value) (k : Nat) (cur : List Int) (t : Bool) (m : Int) : Blk := blk [w, edV (k + 1) cur, .bool t, .int .i64 m]
theorem s_next0 (a l n : Nat) (cur : List Int) (t : Bool) (m : Int) (L R : List (El Int)) (hL : ∀ e ∈ L, e.ok eU8) (hR : ∀ e ∈ R, e.ok eU8) (hLa : ∀ k, (famX k L).length = a) (hn : n < 1000) (hs : famN L + famN R < 1000000) (hl : l < 1000000) : X_impl_Line_next [ptr 0, .int .i64 n] (lbB 1 a (l + 1) (l + 1) cur t m :: famB (2 + (edM cur).length) 1 (L ++ elK [] :: R) :: (edM cur ++ famM eU8 (L ++ elK [] :: R))) = some (roS 0 [], lbV (tlS 1 a l) 1 cur t m :: famB (2 + (edM cur).length) 1 (L ++ elU [] :: R) :: (edM cur ++ famM eU8 (L ++ elU [] :: R))) := by
  have e0 : elU [] = elK [] := rfl
  rw [e0]
  have hok : ∀ e ∈ L ++ elK [] :: R, e.ok eU8 := by
    intro e he
    rcases List.mem_append.1 he with h | h
    · exact hL e h
    · rcases List.mem_cons.1 h with rfl | h
      · exact elK_ok []
      · exact hR e h
  have hC := hLa (2 + (edM cur).length)
  have eX : famX (2 + (edM cur).length) (L ++ elK [] :: R) = famX (2 + (edM cur).length) L ++ roS 0 [] :: famX (2 + (edM cur).length + famN L) R := by
    rw [famX_app]
    rfl
  have eN : famN (L ++ elK [] :: R) = famN L + famN R := by rw [famN_app]; simp [famN, elK, Pc.n]
  have hE := edM_le cur
  have hret : ∀ (a len c : Nat) pv, retK ((edM cur ++ famM eU8 (L ++ elK [] :: R)).length + 1 + 1) (lbB 1 a len c cur t m :: famB (2 + (edM cur).length) 1 (L ++ elK [] :: R) :: (edM cur ++ famM eU8 (L ++ elK [] :: R))) pv (roS 0 []) = some (roS 0 [], lbB 1 a len c cur t m :: famB (2 + (edM cur).length) 1 (L ++ elK [] :: R) :: (edM cur ++ famM eU8 (L ++ elK [] :: R))) := by
    intro a len c pv
    have h1 := nms_line a len c cur t m (L ++ elK [] :: R) hok
    exact (okM_line a len c cur t m (L ++ elK [] :: R) hok).ret (by simp only [List.length_cons, List.length_append, famM_len, eN]; rw [eN] at h1; omega) rfl pv
  simp only [famB, eX] at hret ⊢
  generalize famX (2 + (edM cur).length) L = C at *
  generalize famX (2 + (edM cur).length + famN L) R = D at *
  generalize edM cur ++ famM eU8 (L ++ elK [] :: R) = Q at *
  have ix0 : ixaX 1 (slQ 1 a (l + 1) (l + 1)) (.int .i64 0) = some (.pointer (some ⟨1, a, none⟩)) := by
    have := ixa_sl (sz := 1) .i64 (n := 1) (o := a) (len := l + 1) (c := l + 1) (j := 0) (by omega) (by omega)
    simpa using this
  have hmn : min (n : Int) 0 = 0 := by omega
  have hg : (C ++ roS 0 [] :: D)[a]? = some (roS 0 []) := by rw [← hC]; simp
  have hly : lay (C ++ roS 0 [] :: D) a [roS 0 []] = C ++ roS 0 [] :: D := by rw [← hC]; exact lay_one C (roS 0 []) (roS 0 []) D
  have z1 : ∀ m, slX m 1 (roS 0 []) (some (.int .i64 0)) none = some (roS 0 []) := fun m => sl_frS eU8 m (sz := 1) rfl (l := []) (lo := some (.int .i64 ((0 : Nat) : Int))) (hi := none) (a := 0) (b := 0) (bnd_nat .i64 0 _) rfl (by omega) (by simp)
  have z2 : ∀ m, slX m 1 (roS 0 []) none (some (.int .i64 0)) = some (roS 0 []) := fun m => sl_frS eU8 m (sz := 1) rfl (l := []) (lo := none) (hi := some (.int .i64 ((0 : Nat) : Int))) (a := 0) (b := 0) rfl (bnd_nat .i64 0 _) (by omega) (by simp)
  have hle : a + 1 ≤ C.length + (D.length + 1) := by omega
  cases l with
  | zero =>
    have s3 : ∀ b0 (X : List Value) Q, slX (b0 :: ⟨X, 1, true, true⟩ :: Q) 1 (slQ 1 a 1 1) (some (.int .i64 1)) none = some (slQ 1 a 0 0) := fun b0 X Q => sl_own_end (b0 :: ⟨X, 1, true, true⟩ :: Q) (sz := 1) (n := 1) (o := a) (len := 1) (c := 1) (b := 1) (lo := some (.int .i64 ((1 : Nat) : Int))) (hi := none) rfl (bnd_nat .i64 1 _) rfl (by omega) (by omega)
    have hr := fun pv => hret a 0 0 pv
    simp only [Nat.zero_add] at ix0
    simp (maxSteps := 400000) -implicitDefEqProofs [X_impl_Line_next, ix0, hmn, hg, hly, z1, z2, s3, hle, hr, tlS]
  | succ l =>
    have s3 : ∀ b0 (X : List Value) Q, slX (b0 :: ⟨X, 1, true, true⟩ :: Q) 1 (slQ 1 a (l + 1 + 1) (l + 1 + 1)) (some (.int .i64 1)) none = some (slQ 1 (a + 1) (l + 1) (l + 1)) := fun b0 X Q => by
      have := sl_own (m := b0 :: ⟨X, 1, true, true⟩ :: Q) (sz := 1) (n := 1) (o := a) (len := l + 1 + 1) (c := l + 1 + 1) (a := 1) (b := l + 1 + 1) (lo := some (.int .i64 ((1 : Nat) : Int))) (hi := none) rfl (bnd_nat .i64 1 _) rfl (by omega) (by omega) (by omega)
      simpa using this
    have hr := fun pv => hret (a + 1) (l + 1) (l + 1) pv
    simp (maxSteps := 400000) -implicitDefEqProofs [X_impl_Line_next, ix0, hmn, hg, hly, z1, z2, s3, hle, hr, tlS]
end Go.Ab
namespace Go.Ab
set_option maxHeartbeats 4000000

theorem famM_UH (x : List Int) (k : Nat) (hx : x ≠ []) : (elU x).p.mem eU8 = [ownB eU8 x] ∧ (elH x k).p.mem eU8 = [ownB eU8 x] ∧ (elK x).p.mem eU8 = [ownB eU8 x] := by
  refine ⟨?_, ?_, ?_⟩
  · unfold elU; simp [hx, Pc.mem]
  · unfold elH; simp [Pc.mem]
  · unfold elK; simp [hx, Pc.mem]
theorem OkM.retS' {m : Mem} (H : OkM m) (hK : m.length + 1 + nms m < 4194304) {k z o n c : Nat} (hk : k = m.length) (hz : z < m.length) (pv : List Value) : retK k m pv (slQ z o n c) = some (slQ z o n c, m) := by
  subst hk
  exact H.retS hK hz pv
/-- The first piece read to its end. -/
theorem s_next1 (a l n : Nat) (cur : List Int) (t : Bool) (m : Int) (x : List Int) (hx : x ≠ []) (hxl : x.length < 1000000) (hnx : x.length ≤ n) (L R : List (El Int)) (hL : ∀ e ∈ L, e.ok eU8) (hR : ∀ e ∈ R, e.ok eU8) (hLa : ∀ k, (famX k L).length = a) (hn : n < 1000) (hs : famN L + famN R < 1000000) (hl : l < 1000000) : X_impl_Line_next [ptr 0, .int .i64 n] (lbB 1 a (l + 1) (l + 1) cur t m :: famB (2 + (edM cur).length) 1 (L ++ elK x :: R) :: (edM cur ++ famM eU8 (L ++ elK x :: R))) = some (slQ (2 + (edM cur).length + famN L) 0 x.length x.length, lbV (tlS 1 a l) 1 cur t m :: famB (2 + (edM cur).length) 1 (L ++ elU x :: R) :: (edM cur ++ famM eU8 (L ++ elU x :: R))) := by
  obtain ⟨m1, m2, m3⟩ := famM_UH x 0 hx
  have hok : ∀ e ∈ L ++ elU x :: R, e.ok eU8 := by
    intro e he
    rcases List.mem_append.1 he with h | h
    · exact hL e h
    · rcases List.mem_cons.1 h with rfl | h
      · exact elU_ok x
      · exact hR e h
  have hC := hLa (2 + (edM cur).length)
  have hxp : 0 < x.length := List.length_pos_iff.2 hx
  have n1 : (elU x).p.n = 1 := by unfold elU; simp [hx, Pc.n]
  have n2 : (elK x).p.n = 1 := by unfold elK; simp [hx, Pc.n]
  have v1 : ∀ k, (elU x).p.val k = slQ k 0 0 0 := fun k => by unfold elU; simp [hx, Pc.val]
  have v2 : ∀ k, (elK x).p.val k = slO k x.length := fun k => by unfold elK; simp [hx, Pc.val]
  have eX : famX (2 + (edM cur).length) (L ++ elU x :: R) = famX (2 + (edM cur).length) L ++ slQ (2 + (edM cur).length + famN L) 0 0 0 :: famX (2 + (edM cur).length + famN L + 1) R := by
    rw [famX_app, famX, v1, n1]
    rfl
  have eX2 : famX (2 + (edM cur).length) (L ++ elK x :: R) = famX (2 + (edM cur).length) L ++ slO (2 + (edM cur).length + famN L) x.length :: famX (2 + (edM cur).length + famN L + 1) R := by
    rw [famX_app, famX, v2, n2]
    rfl
  have eN : famN (L ++ elU x :: R) = famN L + (1 + famN R) := by rw [famN_app, famN, n1]
  have eMM : famM eU8 (L ++ elK x :: R) = famM eU8 (L ++ elU x :: R) := by rw [famM_app, famM_app, famM, famM, m1, m3]
  rw [eMM]
  have hE := edM_le cur
  have hlen : (edM cur ++ famM eU8 (L ++ elU x :: R)).length = (edM cur).length + (famN L + (1 + famN R)) := by rw [List.length_append, famM_len, eN]
  have hz : ∀ b0 b1 : Blk, esOf (b0 :: b1 :: (edM cur ++ famM eU8 (L ++ elU x :: R))) (2 + (edM cur).length + famN L) = some 1 := fun b0 b1 => by
    unfold esOf
    rw [show 2 + (edM cur).length + famN L = (edM cur).length + famN L + 1 + 1 by omega, List.getElem?_cons_succ, List.getElem?_cons_succ, famM_app, famM, m1, ← List.append_assoc, List.getElem?_append_right (by simp), List.length_append, famM_len, Nat.sub_self]
    rfl
  have hret : ∀ (a len c : Nat) pv, retK ((edM cur ++ famM eU8 (L ++ elU x :: R)).length + 1 + 1) (lbB 1 a len c cur t m :: famB (2 + (edM cur).length) 1 (L ++ elU x :: R) :: (edM cur ++ famM eU8 (L ++ elU x :: R))) pv (slQ (2 + (edM cur).length + famN L) 0 x.length x.length) = some (slQ (2 + (edM cur).length + famN L) 0 x.length x.length, lbB 1 a len c cur t m :: famB (2 + (edM cur).length) 1 (L ++ elU x :: R) :: (edM cur ++ famM eU8 (L ++ elU x :: R))) := by
    intro a len c pv
    have h1 := nms_line a len c cur t m (L ++ elU x :: R) hok
    rw [eN] at h1
    exact (okM_line a len c cur t m (L ++ elU x :: R) hok).retS' (by rw [List.length_cons, List.length_cons, hlen]; omega) rfl (by rw [List.length_cons, List.length_cons, hlen]; omega) pv
  simp only [famB, eX, eX2] at hret ⊢
  generalize hzz : 2 + (edM cur).length + famN L = z at *
  generalize famX (2 + (edM cur).length) L = C at *
  generalize famX (z + 1) R = D at *
  generalize edM cur ++ famM eU8 (L ++ elU x :: R) = Q at *
  have ix0 : ixaX 1 (slQ 1 a (l + 1) (l + 1)) (.int .i64 0) = some (.pointer (some ⟨1, a, none⟩)) := by
    have := ixa_sl (sz := 1) .i64 (n := 1) (o := a) (len := l + 1) (c := l + 1) (j := 0) (by omega) (by omega)
    simpa using this
  have hmn : min (n : Int) x.length = x.length := by omega
  have hg : (C ++ slO z x.length :: D)[a]? = some (slO z x.length) := by rw [← hC]; simp
  have hly : lay (C ++ slO z x.length :: D) a [slQ z 0 0 0] = C ++ slQ z 0 0 0 :: D := by rw [← hC]; exact lay_one C (slO z x.length) (slQ z 0 0 0) D
  have z1 : ∀ b0 b1, slX (b0 :: b1 :: Q) 1 (slO z x.length) (some (.int .i64 x.length)) none = some (slQ z 0 0 0) := fun b0 b1 => by
    have := sl_own_end (b0 :: b1 :: Q) (sz := 1) (n := z) (o := 0) (len := x.length) (c := x.length) (b := x.length) (lo := some (.int .i64 (x.length : Int))) (hi := none) (hz b0 b1) (bnd_nat .i64 x.length _) rfl (by omega) (by omega)
    simpa using this
  have z2 : ∀ b0 b1, slX (b0 :: b1 :: Q) 1 (slO z x.length) none (some (.int .i64 x.length)) = some (slQ z 0 x.length x.length) := fun b0 b1 => by
    have := sl_own (m := b0 :: b1 :: Q) (sz := 1) (n := z) (o := 0) (len := x.length) (c := x.length) (a := 0) (b := x.length) (lo := none) (hi := some (.int .i64 (x.length : Int))) (hz b0 b1) rfl (bnd_nat .i64 x.length _) (by omega) (by omega) (by omega)
    simpa using this
  have hle : a + 1 ≤ C.length + (D.length + 1) := by omega
  cases l with
  | zero =>
    have s3 : ∀ b0 (X : List Value) Q, slX (b0 :: ⟨X, 1, true, true⟩ :: Q) 1 (slQ 1 a 1 1) (some (.int .i64 1)) none = some (slQ 1 a 0 0) := fun b0 X Q => sl_own_end (b0 :: ⟨X, 1, true, true⟩ :: Q) (sz := 1) (n := 1) (o := a) (len := 1) (c := 1) (b := 1) (lo := some (.int .i64 ((1 : Nat) : Int))) (hi := none) rfl (bnd_nat .i64 1 _) rfl (by omega) (by omega)
    have hr := fun pv => hret a 0 0 pv
    simp only [Nat.zero_add] at ix0
    simp (maxSteps := 400000) -implicitDefEqProofs [X_impl_Line_next, ix0, hmn, hg, hly, z1, z2, s3, hle, hr, tlS]
  | succ l =>
    have s3 : ∀ b0 (X : List Value) Q, slX (b0 :: ⟨X, 1, true, true⟩ :: Q) 1 (slQ 1 a (l + 1 + 1) (l + 1 + 1)) (some (.int .i64 1)) none = some (slQ 1 (a + 1) (l + 1) (l + 1)) := fun b0 X Q => by
      have := sl_own (m := b0 :: ⟨X, 1, true, true⟩ :: Q) (sz := 1) (n := 1) (o := a) (len := l + 1 + 1) (c := l + 1 + 1) (a := 1) (b := l + 1 + 1) (lo := some (.int .i64 ((1 : Nat) : Int))) (hi := none) rfl (bnd_nat .i64 1 _) rfl (by omega) (by omega) (by omega)
      simpa using this
    have hr := fun pv => hret (a + 1) (l + 1) (l + 1) pv
    simp (maxSteps := 400000) -implicitDefEqProofs [X_impl_Line_next, ix0, hmn, hg, hly, z1, z2, s3, hle, hr, tlS]
end Go.Ab
namespace Go.Ab
set_option maxHeartbeats 4000000

/-- A part of the first piece read. -/
theorem s_next2 (a l n : Nat) (cur : List Int) (t : Bool) (m : Int) (x : List Int) (hx : x ≠ []) (hxl : x.length < 1000000) (hnx : n < x.length) (hn1 : 0 < n) (L R : List (El Int)) (hL : ∀ e ∈ L, e.ok eU8) (hR : ∀ e ∈ R, e.ok eU8) (hLa : ∀ k, (famX k L).length = a) (hn : n < 1000) (hs : famN L + famN R < 1000000) (hl : l < 1000000) : X_impl_Line_next [ptr 0, .int .i64 n] (lbB 1 a (l + 1) (l + 1) cur t m :: famB (2 + (edM cur).length) 1 (L ++ elK x :: R) :: (edM cur ++ famM eU8 (L ++ elK x :: R))) = some (slQ (2 + (edM cur).length + famN L) 0 n x.length, lbB 1 a (l + 1) (l + 1) cur t m :: famB (2 + (edM cur).length) 1 (L ++ elH x n :: R) :: (edM cur ++ famM eU8 (L ++ elH x n :: R))) := by
  obtain ⟨m2, m1, m3⟩ := famM_UH x n hx
  have hok : ∀ e ∈ L ++ elH x n :: R, e.ok eU8 := by
    intro e he
    rcases List.mem_append.1 he with h | h
    · exact hL e h
    · rcases List.mem_cons.1 h with rfl | h
      · exact elH_ok x n hnx
      · exact hR e h
  have hC := hLa (2 + (edM cur).length)
  have hxp : 0 < x.length := List.length_pos_iff.2 hx
  have n1 : (elH x n).p.n = 1 := rfl
  have n2 : (elK x).p.n = 1 := by unfold elK; simp [hx, Pc.n]
  have v1 : ∀ k, (elH x n).p.val k = slQ k n (x.length - n) (x.length - n) := fun k => by simp [elH, Pc.val]
  have v2 : ∀ k, (elK x).p.val k = slO k x.length := fun k => by unfold elK; simp [hx, Pc.val]
  have eX : famX (2 + (edM cur).length) (L ++ elH x n :: R) = famX (2 + (edM cur).length) L ++ slQ (2 + (edM cur).length + famN L) n (x.length - n) (x.length - n) :: famX (2 + (edM cur).length + famN L + 1) R := by
    rw [famX_app, famX, v1, n1]
    rfl
  have eX2 : famX (2 + (edM cur).length) (L ++ elK x :: R) = famX (2 + (edM cur).length) L ++ slO (2 + (edM cur).length + famN L) x.length :: famX (2 + (edM cur).length + famN L + 1) R := by
    rw [famX_app, famX, v2, n2]
    rfl
  have eN : famN (L ++ elH x n :: R) = famN L + (1 + famN R) := by rw [famN_app, famN, n1]
  have eMM : famM eU8 (L ++ elK x :: R) = famM eU8 (L ++ elH x n :: R) := by rw [famM_app, famM_app, famM, famM, m1, m3]
  rw [eMM]
  have hE := edM_le cur
  have hlen : (edM cur ++ famM eU8 (L ++ elH x n :: R)).length = (edM cur).length + (famN L + (1 + famN R)) := by rw [List.length_append, famM_len, eN]
  have hz : ∀ b0 b1 : Blk, esOf (b0 :: b1 :: (edM cur ++ famM eU8 (L ++ elH x n :: R))) (2 + (edM cur).length + famN L) = some 1 := fun b0 b1 => by
    unfold esOf
    rw [show 2 + (edM cur).length + famN L = (edM cur).length + famN L + 1 + 1 by omega, List.getElem?_cons_succ, List.getElem?_cons_succ, famM_app, famM, m1, ← List.append_assoc, List.getElem?_append_right (by simp), List.length_append, famM_len, Nat.sub_self]
    rfl
  have hret : ∀ (a len c : Nat) pv, retK ((edM cur ++ famM eU8 (L ++ elH x n :: R)).length + 1 + 1) (lbB 1 a len c cur t m :: famB (2 + (edM cur).length) 1 (L ++ elH x n :: R) :: (edM cur ++ famM eU8 (L ++ elH x n :: R))) pv (slQ (2 + (edM cur).length + famN L) 0 n x.length) = some (slQ (2 + (edM cur).length + famN L) 0 n x.length, lbB 1 a len c cur t m :: famB (2 + (edM cur).length) 1 (L ++ elH x n :: R) :: (edM cur ++ famM eU8 (L ++ elH x n :: R))) := by
    intro a len c pv
    have h1 := nms_line a len c cur t m (L ++ elH x n :: R) hok
    rw [eN] at h1
    exact (okM_line a len c cur t m (L ++ elH x n :: R) hok).retS' (by rw [List.length_cons, List.length_cons, hlen]; omega) rfl (by rw [List.length_cons, List.length_cons, hlen]; omega) pv
  simp only [famB, eX, eX2] at hret ⊢
  generalize hzz : 2 + (edM cur).length + famN L = z at *
  generalize famX (2 + (edM cur).length) L = C at *
  generalize famX (z + 1) R = D at *
  generalize edM cur ++ famM eU8 (L ++ elH x n :: R) = Q at *
  have ix0 : ixaX 1 (slQ 1 a (l + 1) (l + 1)) (.int .i64 0) = some (.pointer (some ⟨1, a, none⟩)) := by
    have := ixa_sl (sz := 1) .i64 (n := 1) (o := a) (len := l + 1) (c := l + 1) (j := 0) (by omega) (by omega)
    simpa using this
  have hmn : min (n : Int) x.length = n := by omega
  have hne : ¬ (n : Int) = x.length := by omega
  have hg : (C ++ slO z x.length :: D)[a]? = some (slO z x.length) := by rw [← hC]; simp
  have hly : lay (C ++ slO z x.length :: D) a [slQ z n (x.length - n) (x.length - n)] = C ++ slQ z n (x.length - n) (x.length - n) :: D := by rw [← hC]; exact lay_one C (slO z x.length) (slQ z n (x.length - n) (x.length - n)) D
  have z1 : ∀ b0 b1, slX (b0 :: b1 :: Q) 1 (slO z x.length) (some (.int .i64 n)) none = some (slQ z n (x.length - n) (x.length - n)) := fun b0 b1 => by
    have := sl_own (m := b0 :: b1 :: Q) (sz := 1) (n := z) (o := 0) (len := x.length) (c := x.length) (a := n) (b := x.length) (lo := some (.int .i64 (n : Int))) (hi := none) (hz b0 b1) (bnd_nat .i64 n _) rfl (by omega) (by omega) (by omega)
    simpa using this
  have z2 : ∀ b0 b1, slX (b0 :: b1 :: Q) 1 (slO z x.length) none (some (.int .i64 n)) = some (slQ z 0 n x.length) := fun b0 b1 => by
    have := sl_own (m := b0 :: b1 :: Q) (sz := 1) (n := z) (o := 0) (len := x.length) (c := x.length) (a := 0) (b := n) (lo := none) (hi := some (.int .i64 (n : Int))) (hz b0 b1) rfl (bnd_nat .i64 n _) (by omega) (by omega) (by omega)
    simpa using this
  have hle : a + 1 ≤ C.length + (D.length + 1) := by omega
  have hr := fun pv => hret a (l + 1) (l + 1) pv
  simp (maxSteps := 400000) -implicitDefEqProofs [X_impl_Line_next, ix0, hmn, hne, hg, hly, z1, z2, hle, hr]
end Go.Ab
namespace Go.Ab
set_option maxHeartbeats 4000000

/-! ## A line that lies anywhere -/
/-- Its box at b, its blocks from o on. -/
structure LineSeg (mm : Mem) (o : Nat) (cur : List Int) (es : List (El Int)) : Prop where
  seg : ∀ i x, (famB (o + 1 + (edM cur).length) 1 es :: (edM cur ++ famM eU8 es))[i]? = some x → mm[o + i]? = some x
  ok : ∀ e ∈ es, e.ok eU8
structure LineAt (mm : Mem) (b o a len c : Nat) (cur : List Int) (t : Bool) (m : Int) (es : List (El Int)) : Prop extends LineSeg mm o cur es where
  box : mm[b]? = some (lbB o a len c cur t m)
theorem LineSeg.fam {mm : Mem} {o : Nat} {cur : List Int} {es : List (El Int)} (H : LineSeg mm o cur es) : Fam eU8 mm o 1 (List.range' (o + 1 + (edM cur).length) (famN es)) es := by
  refine Fam.of_row eU8 ?_ (fun i x h => ?_) (by omega) H.ok
  · have := H.seg 0 _ rfl
    simpa using this
  · have := H.seg (1 + (edM cur).length + i) x (by
      rw [show 1 + (edM cur).length + i = (edM cur).length + i + 1 by omega, List.getElem?_cons_succ, List.getElem?_append_right (by omega), Nat.add_sub_cancel_left]
      exact h)
    rw [← Nat.add_assoc, ← Nat.add_assoc] at this
    exact this
theorem LineAt.nm {mm : Mem} {b o a len c : Nat} {cur : List Int} {t : Bool} {m : Int} {es : List (El Int)} (H : LineAt mm b o a len c cur t m es) : nmB (lbB o a len c cur t m) = List.range' o (1 + (edM cur).length) := by
  unfold lbB edV edM
  by_cases hd : cur = [] <;> simp [hd, List.range'_succ]
theorem LineSeg.reach {mm : Mem} {o : Nat} {cur : List Int} {es : List (El Int)} (H : LineSeg mm o cur es) (acc : List Nat) (k : Nat) (ha : ∀ n ∈ acc, n < o ∨ o + (1 + (edM cur).length + famN es) ≤ n) (hk : famN es + 4 < k) : reachF k mm (List.range' o (1 + (edM cur).length)) acc = some (acc ++ List.range' o (1 + (edM cur).length + famN es)) := by
  have F := H.fam
  have hnm : nmB (famB (o + 1 + (edM cur).length) 1 es) = List.range' (o + 1 + (edM cur).length) (famN es) := by
    have := F.nmB
    rwa [famI_range] at this
  have h0 : mm[o]? = some (famB (o + 1 + (edM cur).length) 1 es) := by simpa using H.seg 0 _ rfl
  have n0 : o ∉ acc := fun h => by have := ha o h; omega
  obtain ⟨k, rfl⟩ : ∃ j, k = j + 1 := ⟨k - 1, by omega⟩
  by_cases hd : cur = []
  · have e0 : (edM cur).length = 0 := by unfold edM; rw [if_pos hd]; rfl
    rw [e0] at hnm h0 ha F ⊢
    rw [show List.range' o (1 + 0) = [o] from rfl, reach_one h0 n0 hnm, List.nil_append, F.tail eU8 _ (fun n hn h => by
      rw [mem_range'] at hn
      rcases List.mem_append.1 h with h | h
      · have := ha n h; omega
      · simp at h; omega) (by simp; omega)]
    congr 1
    rw [List.append_assoc, Nat.add_zero, Nat.add_zero, Nat.add_comm 1, List.range'_succ]
    rfl
  · have e0 : (edM cur).length = 1 := by unfold edM; rw [if_neg hd]; rfl
    have e1 : edM cur = [ownB eU8 cur] := by unfold edM; rw [if_neg hd]
    have h1 : mm[o + 1]? = some (ownB eU8 cur) := H.seg 1 _ (by rw [e1]; rfl)
    rw [e0] at hnm h0 ha F ⊢
    have n1 : o + 1 ∉ acc ++ [o] := fun h => by
      rcases List.mem_append.1 h with h | h
      · have := ha _ h; omega
      · simp at h
    obtain ⟨k, rfl⟩ : ∃ j, k = j + 1 := ⟨k - 1, by omega⟩
    rw [show List.range' o (1 + 1) = [o, o + 1] from rfl, reach_one h0 n0 hnm, List.cons_append, reach_one h1 n1 (nmB_own eU8 cur), List.append_nil, List.nil_append, F.tail eU8 _ (fun n hn h => by
      rw [mem_range'] at hn
      rcases List.mem_append.1 h with h | h
      · rcases List.mem_append.1 h with h | h
        · have := ha n h; omega
        · simp at h; omega
      · simp at h; omega) (by simp; omega)]
    congr 1
    rw [List.append_assoc, List.append_assoc, show 1 + 1 + famN es = famN es + 1 + 1 by omega, List.range'_succ, List.range'_succ]
    rfl
theorem ix_line {o N : Nat} {pre : List Nat} (hn : (pre ++ List.range' o N).Nodup) (i : Nat) (hi : i < N) : ixOf (pre ++ List.range' o N) (o + i) = some (pre.length + i) := by
  have := ixOf_mid (pre := pre) (ix := List.range' o N) (post := []) (i := i) (n := o + i) hn (by rw [List.getElem?_range' (by omega)]; simp)
  rwa [List.append_nil] at this
theorem LineSeg.loc2 {mm : Mem} {o : Nat} {cur : List Int} {es : List (El Int)} (H : LineSeg mm o cur es) (pre : List Nat) (hn : (pre ++ List.range' o (1 + (edM cur).length + famN es)).Nodup) : locM mm (pre ++ List.range' o (1 + (edM cur).length + famN es)) (List.range' o (1 + (edM cur).length + famN es)) = some (famB (pre.length + 1 + (edM cur).length) 1 es :: (edM cur ++ famM eU8 es)) := by
  have F := H.fam
  have h0 : mm[o]? = some (famB (o + 1 + (edM cur).length) 1 es) := by simpa using H.seg 0 _ rfl
  by_cases hd : cur = []
  · have e0 : (edM cur).length = 0 := by unfold edM; rw [if_pos hd]; rfl
    have e1 : edM cur = [] := by unfold edM; rw [if_pos hd]
    rw [e0] at h0 F hn ⊢
    have er : List.range' o (1 + 0 + famN es) = o :: List.range' (o + 1) (famN es) := by rw [Nat.add_zero, Nat.add_comm 1, List.range'_succ]
    rw [er] at hn ⊢
    have hl : locB (pre ++ o :: List.range' (o + 1) (famN es)) (famB (o + 1 + 0) 1 es) = some (famB (pre ++ [o]).length 1 es) := by
      have := F.locO eU8 (pre := pre ++ [o]) (by rw [List.append_assoc]; exact hn)
      rw [famI_range, List.append_assoc] at this
      exact this
    rw [loc_one h0 hl, F.locI, e1]
    simp
  · have e0 : (edM cur).length = 1 := by unfold edM; rw [if_neg hd]; rfl
    have e1 : edM cur = [ownB eU8 cur] := by unfold edM; rw [if_neg hd]
    have h1 : mm[o + 1]? = some (ownB eU8 cur) := H.seg 1 _ (by rw [e1]; rfl)
    rw [e0] at h0 F hn ⊢
    have er : List.range' o (1 + 1 + famN es) = o :: (o + 1) :: List.range' (o + 1 + 1) (famN es) := by rw [show 1 + 1 + famN es = famN es + 1 + 1 by omega, List.range'_succ, List.range'_succ]
    rw [er] at hn ⊢
    have hl : locB (pre ++ o :: (o + 1) :: List.range' (o + 1 + 1) (famN es)) (famB (o + 1 + 1) 1 es) = some (famB (pre ++ [o, o + 1]).length 1 es) := by
      have := F.locO eU8 (pre := pre ++ [o, o + 1]) (by rw [List.append_assoc]; exact hn)
      rw [famI_range, List.append_assoc] at this
      exact this
    rw [loc_one h0 hl, loc_one h1 (locB_own eU8 _ cur), F.locI, e1]
    simp
theorem LineAt.loc {mm : Mem} {b o a len c : Nat} {cur : List Int} {t : Bool} {m : Int} {es : List (El Int)} (H : LineAt mm b o a len c cur t m es) (pre : List Nat) (hn : (pre ++ List.range' o (1 + (edM cur).length + famN es)).Nodup) :
    locB (pre ++ List.range' o (1 + (edM cur).length + famN es)) (lbB o a len c cur t m) = some (lbB pre.length a len c cur t m) ∧
    locM mm (pre ++ List.range' o (1 + (edM cur).length + famN es)) (List.range' o (1 + (edM cur).length + famN es)) = some (famB (pre.length + 1 + (edM cur).length) 1 es :: (edM cur ++ famM eU8 es)) := by
  refine ⟨?_, H.loc2 pre hn⟩
  have hix := ix_line hn
  have i0 := hix 0 (by omega)
  generalize pre ++ List.range' o (1 + (edM cur).length + famN es) = RR at *
  unfold lbB edV
  by_cases hd : cur = []
  · simp at i0
    simp [hd, i0]
  · have i1 := hix 1 (by unfold edM; rw [if_neg hd]; simp; omega)
    simp at i0
    simp [hd, i0, i1]
end Go.Ab
namespace Go.Ab
set_option maxHeartbeats 4000000

theorem setAll_same : ∀ (l : List Blk) (k : Nat) (mm : Mem), (∀ i x, l[i]? = some x → mm[k + i]? = some x) → setAll mm (List.range' k l.length) l = mm
  | [], k, mm, h => by simp
  | x :: l, k, mm, h => by
    have h0 : mm[k]? = some x := by simpa using h 0 x rfl
    have hs : mm.set k x = mm := by
      apply List.ext_getElem?
      intro i
      by_cases e : k = i
      · subst e
        rw [List.getElem?_set_self (List.getElem?_eq_some_iff.1 h0).1, h0]
      · rw [List.getElem?_set_ne e]
    rw [List.length_cons, List.range'_succ, setAll_cons, hs]
    exact setAll_same l (k + 1) mm fun i y hy => by
      have := h (i + 1) y (by rw [List.getElem?_cons_succ]; exact hy)
      rwa [show k + (i + 1) = k + 1 + i by omega] at this
/-- A call on a line anywhere. -/
theorem rcall_lineG {X : List Value → Mem → Option VM} {mm : Mem} {b o a len c : Nat} {cur : List Int} {t : Bool} {m : Int} {es : List (El Int)} (H : LineAt mm b o a len c cur t m es) (hbo : b < o ∨ o + (1 + (edM cur).length + famN es) ≤ b) (a' len' c' n : Nat) (es' : List (El Int)) (hok' : ∀ e ∈ es', e.ok eU8) (hN : famN es' = famN es) (hM : famM eU8 es' = famM eU8 es) (hn : famN es < 4000000) (v v' : Value)
    (hv : (v = roS 0 [] ∧ v' = roS 0 []) ∨ ∃ j k cc, j < famN es ∧ v = slQ (2 + (edM cur).length + j) 0 k cc ∧ v' = slQ (o + 1 + (edM cur).length + j) 0 k cc)
    (hX : X [ptr 0, .int .i64 n] (lbB 1 a len c cur t m :: famB (2 + (edM cur).length) 1 es :: (edM cur ++ famM eU8 es)) = some (v, lbB 1 a' len' c' cur t m :: famB (2 + (edM cur).length) 1 es' :: (edM cur ++ famM eU8 es'))) :
    rcall X [ptr b, .int .i64 n] mm = some (v', (mm.set b (lbB o a' len' c' cur t m)).set o (famB (o + 1 + (edM cur).length) 1 es')) := by
  have hE := edM_le cur
  have hnd : ([b] ++ List.range' o (1 + (edM cur).length + famN es)).Nodup := List.nodup_cons.2 ⟨fun h => by have h : b ∈ List.range' o (1 + (edM cur).length + famN es) := h; rw [mem_range'] at h; omega, List.nodup_range'⟩
  have h1 : reachF 4194304 mm [b] [] = some (b :: List.range' o (1 + (edM cur).length + famN es)) := by
    rw [reach_one H.box (by simp) H.nm, List.nil_append]
    exact H.reach [b] _ (fun n hn => by simp at hn; omega) (by omega)
  obtain ⟨l1, l2⟩ := H.loc [b] hnd
  have h2 : locM mm (b :: List.range' o (1 + (edM cur).length + famN es)) (b :: List.range' o (1 + (edM cur).length + famN es)) = some (lbB 1 a len c cur t m :: famB (2 + (edM cur).length) 1 es :: (edM cur ++ famM eU8 es)) := by
    have e : [b].length + 1 + (edM cur).length = 2 + (edM cur).length := rfl
    rw [e] at l2
    have l1' : locB (b :: List.range' o (1 + (edM cur).length + famN es)) (lbB o a len c cur t m) = some (lbB 1 a len c cur t m) := l1
    have l2' : locM mm (b :: List.range' o (1 + (edM cur).length + famN es)) (List.range' o (1 + (edM cur).length + famN es)) = some (famB (2 + (edM cur).length) 1 es :: (edM cur ++ famM eU8 es)) := l2
    rw [loc_one H.box l1', l2']
    rfl
  have hEd : ∀ π : Nat → Option Nat, (cur ≠ [] → π 2 = some (o + 1)) → rnV 8 inert π (edV 2 cur) = some (edV (o + 1) cur) := by
    intro π hπ
    unfold edV
    by_cases hd : cur = []
    · rw [if_pos hd, if_pos hd]; rfl
    · rw [if_neg hd, if_neg hd, rn_inert_sl, hπ hd]; rfl
  have hE2 : cur ≠ [] → (edM cur).length = 1 := fun h => by unfold edM; rw [if_neg h]; rfl
  have hseg := H.seg
  rw [hM] at hX
  generalize hee : (edM cur).length = e at *
  have hnm : ([ptr b, .int .i64 n] : List Value).flatMap (nmV 8) = [b] := rfl
  have hrn : mapO (rnV 8 inert (ixOf (b :: List.range' o (1 + e + famN es)))) [ptr b, .int .i64 n] = some [ptr 0, .int .i64 n] := by simp
  have hlen : (b :: List.range' o (1 + e + famN es)).length = e + famN es + 2 := by simp; omega
  have hlen2 : (lbB 1 a' len' c' cur t m :: famB (2 + e) 1 es' :: (edM cur ++ famM eU8 es)).length = e + famN es + 2 := by simp [hee]
  rw [rcall_eq, hnm, h1, bo_some, hrn, bo_some, h2, bo_some, hX, bo_some]
  simp only
  rw [if_pos (by rw [hlen, hlen2]; exact Nat.le_refl _), hlen2]
  generalize mm.length = LL
  generalize hπ : bk (b :: List.range' o (1 + e + famN es)) LL (e + famN es + 2) = π
  have hbk : ∀ i, i < 1 + e + famN es → π (1 + i) = some (o + i) := by
    intro i hi
    rw [← hπ]
    unfold bk
    rw [hlen, if_pos (by omega), Nat.add_comm 1 i, List.getElem?_cons_succ, List.getElem?_range' (by omega)]
    simp
  have hb1 : π 1 = some o := hbk 0 (by omega)
  have hrv : rnV 8 inert π v = some v' := by
    rcases hv with ⟨rfl, rfl⟩ | ⟨j, k, cc, hj, rfl, rfl⟩
    · rfl
    · rw [rn_inert_sl, show 2 + e + j = 1 + (1 + e + j) by omega, hbk _ (by omega), show o + (1 + e + j) = o + 1 + e + j by omega]; rfl
  have hm0 : bkB π (lbB 1 a' len' c' cur t m) = some (lbB o a' len' c' cur t m) := by
    have := hEd π (fun h => hbk 1 (by have := hE2 h; omega))
    unfold bkB
    rw [if_neg (by simp)]
    simp only [if_true]
    have e1 : rnV 8 inert π (slQ 1 a' len' c') = some (slQ o a' len' c') := by rw [rn_inert_sl, hb1]; rfl
    have e2 : mapO (rnV 8 inert π) [slQ 1 a' len' c', edV 2 cur, .bool t, .int .i64 m] = some [slQ o a' len' c', edV (o + 1) cur, .bool t, .int .i64 m] := by
      simp only [mapO, e1, this]
      rfl
    show ob (mapO (rnV 8 inert π) [slQ 1 a' len' c', edV 2 cur, .bool t, .int .i64 m]) _ = _
    rw [e2]
    rfl
  have hm1 := bkB_fam eU8 (π := π) es' (2 + e) (o + 1 + e) 1 true hok' (fun i hi => by rw [show 2 + e + i = 1 + (1 + e + i) by omega, hbk _ (by omega), show o + (1 + e + i) = o + 1 + e + i by omega])
  have hm2 := mapB_fam eU8 (π := π) (edM cur ++ famM eU8 es) (own_all cur es)
  rw [show (⟨famX (2 + e) es', 1, true, true⟩ : Blk) = famB (2 + e) 1 es' from rfl, show (⟨famX (o + 1 + e) es', 1, true, true⟩ : Blk) = famB (o + 1 + e) 1 es' from rfl] at hm1
  rw [hrv, bo_some, mapB_cons, hm0, bo_some, mapB_cons, hm1, bo_some, hm2, bo_some, bo_some, bo_some]
  have e3 : (edM cur ++ famM eU8 es).length = e + famN es := by simp [hee]
  rw [hlen, List.take_of_length_le (by simp [hee]), List.drop_of_length_le (by simp [hee]), List.append_nil, show 1 + e + famN es = e + famN es + 1 by omega, List.range'_succ, setAll_cons, setAll_cons, ← e3]
  rw [setAll_same]
  intro i x hx
  have hi := (List.getElem?_eq_some_iff.1 hx).1
  rw [List.getElem?_set_ne (by omega), List.getElem?_set_ne (by omega)]
  have := hseg (i + 1) x (by rw [List.getElem?_cons_succ]; exact hx)
  rwa [show o + (i + 1) = o + 1 + i by omega] at this
/-- A round of ReadLine's loop ends: everything gets its place again. -/
theorem cut_line {mm : Mem} {w r b y o a len c n : Nat} {cur out : List Int} {t : Bool} {m : Int} {es : List (El Int)} {wb rb : Blk} (H : LineAt mm b o a len c cur t m es) (hw : mm[w]? = some wb) (hwi : wb.cells.all inert = true) (hr : mm[r]? = some rb) (hri : rb.cells.all inert = true) (hy : mm[y]? = some (ownB eU8 out)) (hn : famN es < 4000000) (hnd : (w :: r :: b :: y :: List.range' o (1 + (edM cur).length + famN es)).Nodup) {pv : List Value} {J : List Value → Mem → Option VM} {k : Nat} : cutK 0 mm pv [.int .i64 k, ptr w, ptr r, ptr b, slO y n] J = J [.int .i64 k, ptr 0, ptr 1, ptr 2, slO 3 n] (wb :: rb :: lbB 4 a len c cur t m :: ownB eU8 out :: famB (5 + (edM cur).length) 1 es :: (edM cur ++ famM eU8 es)) := by
  have hE := edM_le cur
  have hnd' : ([w, r, b, y] ++ List.range' o (1 + (edM cur).length + famN es)).Nodup := hnd
  obtain ⟨l1, l2⟩ := H.loc [w, r, b, y] hnd'
  have d1 := List.nodup_cons.1 hnd
  have d2 := List.nodup_cons.1 d1.2
  have d3 := List.nodup_cons.1 d2.2
  have d4 := List.nodup_cons.1 d3.2
  simp only [List.mem_cons, not_or] at d1 d2 d3
  have hout : ∀ x, x ∉ List.range' o (1 + (edM cur).length + famN es) → x < o ∨ o + (1 + (edM cur).length + famN es) ≤ x := fun x hx => by
    rw [mem_range'] at hx
    omega
  have h1 : reachF 4194304 mm [w, r, b, y] [] = some ([w, r, b, y] ++ List.range' o (1 + (edM cur).length + famN es)) := by
    rw [reach_one hw (by simp) (nmB_inert hwi), List.append_nil, reach_one hr (by simpa using fun e => d1.1.1 e.symm) (nmB_inert hri), List.append_nil, reach_one H.box (by simpa using ⟨fun e => d1.1.2.1 e.symm, fun e => d2.1.1 e.symm⟩) H.nm, List.cons_append, reach_one hy (by simpa using ⟨fun e => d1.1.2.2.1 e.symm, fun e => d2.1.2.1 e.symm, fun e => d3.1.1 e.symm⟩) (nmB_own eU8 out), List.append_nil, List.nil_append]
    refine H.reach [w, r, b, y] _ (fun x hx => ?_) (by omega)
    simp only [List.mem_cons, List.not_mem_nil, or_false] at hx
    rcases hx with rfl | rfl | rfl | rfl
    · exact hout _ d1.1.2.2.2
    · exact hout _ d2.1.2.2
    · exact hout _ d3.1.2
    · exact hout _ d4.1
  have h2 : locM mm ([w, r, b, y] ++ List.range' o (1 + (edM cur).length + famN es)) ([w, r, b, y] ++ List.range' o (1 + (edM cur).length + famN es)) = some (wb :: rb :: lbB 4 a len c cur t m :: ownB eU8 out :: famB (5 + (edM cur).length) 1 es :: (edM cur ++ famM eU8 es)) := by
    have e : [w, r, b, y].length + 1 + (edM cur).length = 5 + (edM cur).length := rfl
    rw [e] at l2
    show locM mm _ (w :: r :: b :: y :: List.range' o (1 + (edM cur).length + famN es)) = _
    rw [loc_one hw (locB_inert hwi), loc_one hr (locB_inert hri), loc_one H.box l1, loc_one hy (locB_own eU8 _ out), l2]
    rfl
  refine cut_of h1 h2 (by simp) ?_
  have q1 : ¬ w = r := d1.1.1
  have q2 : ¬ w = b := d1.1.2.1
  have q3 : ¬ w = y := d1.1.2.2.1
  have q4 : ¬ r = b := d2.1.1
  have q5 : ¬ r = y := d2.1.2.1
  have q6 : ¬ b = y := d3.1.1
  simp [q1, q2, q3, q4, q5, q6]
end Go.Ab
