/- What the functions of the program answer, for all arguments that the theorems name as conditions. -/
import Derived.Test.YtkfbpdbopkdnjaaS3RM
import Derived.Test.YtkfbpdbopkdnjaaS3P4
import Derived.Test.YtkfbpdbopkdnjaaFD
namespace Go.Ab
set_option linter.unusedSimpArgs false
set_option linter.unusedVariables false
set_option maxHeartbeats 4000000

/-! ## ParseMany of the reference: its loop -/
abbrev zB : Blk := blk [.int .i64 0, nil0, .int .i64 0, .int .i64 0, .bool false, nil0]
abbrev outC (p : ParT) (w v : Value) : List Value := [.int .i64 0, w, .int .i64 p.k, .int .i64 p.s, .bool p.lead, v]
theorem famG0 {es : List (ActT × Bool)} {hd R : Mem} {j : Nat} (hj : j < hd.length) (ho : hd[j]? = some ⟨famX hd.length (es.map elA), 5, true, true⟩) : Fam eI6 (hd ++ (famM eI6 (es.map elA) ++ R)) j 5 (List.range' hd.length (famN (es.map elA))) (es.map elA) := by
  refine Fam.of_row eI6 (by rw [List.getElem?_append_left hj]; exact ho) (fun i x h => ?_) (by omega) (ok_Al es)
  exact in_row hd _ R (b := hd.length) (k := i + 1) (i := i) rfl (by rw [List.getElem?_range' (by omega)]; simp) h
theorem famG1 {es : List (ActT × Bool)} {hd R : Mem} {a : ActT} {jj j : Nat} (hj : j = hd.length + famN (es.map elA) + jj) (hR : R[jj]? = some ⟨famX hd.length (es.map elA) ++ (actPre a ++ [nil0]), 5, true, true⟩) : Fam eI6 (hd ++ (famM eI6 (es.map elA) ++ R)) j 5 (List.range' hd.length (famN (es.map elA)) ++ []) ((es ++ [(a, false)]).map elA) := by
  rw [List.map_append]
  refine Fam.snoc eI6 (j := 0) (m := []) (by simp) (ok_Al es) (elA_ok (a, false)) (fun i n b h1 h2 => in_row _ _ R rfl h1 h2) (fun i n b h1 h2 => by simp at h1) rfl (nod_row0 (by omega)) (cs := famX hd.length (es.map elA) ++ (actPre a ++ [nil0])) ?_ (at_row _ _ R (j := jj) (by rw [famM_len]; omega) hR)
  rw [famI_range]
  rfl
theorem famG2 {es : List (ActT × Bool)} {hd R : Mem} {a : ActT} {jj j yy y : Nat} (hj : j = hd.length + famN (es.map elA) + jj) (hy : y = hd.length + famN (es.map elA) + yy) (hne : yy ≠ jj) (hRy : R[yy]? = some (ownB eI6 a.ns)) (hR : R[jj]? = some ⟨famX hd.length (es.map elA) ++ (actPre a ++ [slO y a.ns.length]), 5, true, true⟩) : Fam eI6 (hd ++ (famM eI6 (es.map elA) ++ R)) j 5 (List.range' hd.length (famN (es.map elA)) ++ [y]) ((es ++ [(a, true)]).map elA) := by
  rw [List.map_append]
  refine Fam.snoc eI6 (j := 0) (m := []) (by simp) (ok_Al es) (elA_ok (a, true)) (fun i n b h1 h2 => in_row _ _ R rfl h1 h2) (fun i n b h1 h2 => ?_) rfl (nod_row1 (by omega) (by omega) (by omega)) (cs := famX hd.length (es.map elA) ++ (actPre a ++ [slO y a.ns.length])) ?_ (at_row _ _ R (j := jj) (by rw [famM_len]; omega) hR)
  · have hi := (List.getElem?_eq_some_iff.1 h1).1
    have : i = 0 := by simpa using hi
    subst this
    simp at h1
    have h2 : some (ownB eI6 ([] ++ (a.ns ++ []))) = some b := h2
    rw [← h2, List.nil_append, List.append_nil, ← h1]
    exact at_row _ _ R (j := yy) (by rw [famM_len]; omega) hRy
  · rw [famI_range]
    rfl
/-- A round of the reference's loop, after which there are actions. -/
theorem cutS {m : Mem} {j n : Nat} {ix : List Nat} {es : List (El Int)} {p2 : ParT} {vp x1 x4 : Value} (h0 : m[0]? = some zB) (h1 : m[1]? = some (blk (outC p2 (slO j n) vp))) (H : Fam eI6 m j 5 ix es) (hj : 2 ≤ j) (hix : ∀ n ∈ ix, 2 ≤ n) (hk : ix.length < 4194000) (hv : (p2.ns = [] ∧ (vp = nil0 ∨ vp = roS 0 [])) ∨ ∃ z, vp = slO z p2.ns.length ∧ m[z]? = some (ownB eI6 p2.ns) ∧ 2 ≤ z ∧ z ≠ j ∧ z ∉ ix) (hx1 : scal x1 = true) (hx4 : scal x4 = true) : ∃ vp' Q', SLT p2.ns vp' Q' 3 ∧ ∀ pv J, cutK 0 m pv [x1, ptr 0, ptr 1, x4] J = J [x1, ptr 0, ptr 1, x4] (zB :: blk (outC p2 (slO 2 n) vp') :: famB (3 + Q'.length) 5 es :: (Q' ++ famM eI6 es)) := by
  have j0 : ¬ 0 = j := by omega
  have j1 : ¬ 1 = j := by omega
  rcases hv with ⟨h2, h3⟩ | ⟨z, rfl, h2, h3, h4, h5⟩
  · have hN : (0 :: 1 :: j :: ix).Nodup := by
      have := H.nod
      refine List.nodup_cons.2 ⟨fun h => ?_, List.nodup_cons.2 ⟨fun h => ?_, this⟩⟩
      · simp only [List.mem_cons] at h
        rcases h with h | h | h
        · omega
        · omega
        · have := hix 0 h; omega
      · simp only [List.mem_cons] at h
        rcases h with h | h
        · omega
        · have := hix 1 h; omega
    obtain ⟨c1, c2⟩ := H.can4a eI6 (bb0 := blk (outC p2 (slO 2 n) vp)) h0 rfl h1 (by rcases h3 with rfl | rfl <;> simp) (by rcases h3 with rfl | rfl <;> simp [j0, j1]) hN hk
    refine ⟨vp, [], .inl ⟨h2, rfl, h3⟩, fun pv J => ?_⟩
    exact cut_of c1 c2 (by simp [nmV_scal hx1, nmV_scal hx4]) (by simp [rnV_scal hx1, rnV_scal hx4])
  · have hN : (0 :: 1 :: j :: z :: ix).Nodup := by
      have := List.nodup_cons.1 H.nod
      refine List.nodup_cons.2 ⟨fun h => ?_, List.nodup_cons.2 ⟨fun h => ?_, List.nodup_cons.2 ⟨fun h => ?_, List.nodup_cons.2 ⟨h5, this.2⟩⟩⟩⟩
      · simp only [List.mem_cons] at h
        rcases h with h | h | h | h
        · omega
        · omega
        · omega
        · have := hix 0 h; omega
      · simp only [List.mem_cons] at h
        rcases h with h | h | h
        · omega
        · omega
        · have := hix 1 h; omega
      · simp only [List.mem_cons] at h
        rcases h with h | h
        · omega
        · exact this.1 h
    have z0 : ¬ 0 = z := by omega
    have z1 : ¬ 1 = z := by omega
    have z2 : ¬ j = z := fun e => h4 e.symm
    obtain ⟨c1, c2⟩ := H.can4b eI6 eI6 (bb0 := blk (outC p2 (slO 2 n) (slO 3 p2.ns.length))) (z := z) h0 rfl h1 (by simp) (by simp [j0, j1, z0, z1, z2]) h2 hN hk
    refine ⟨slO 3 p2.ns.length, [ownB eI6 p2.ns], .inr ⟨rfl, rfl⟩, fun pv J => ?_⟩
    exact cut_of c1 c2 (by simp [nmV_scal hx1, nmV_scal hx4]) (by simp [rnV_scal hx1, rnV_scal hx4])
end Go.Ab
