/- What the functions of the program answer, for all arguments that the theorems name as conditions. -/
import Derived.Test.YtkfbpdbopkdnjaaS3RK
import Derived.Test.YtkfbpdbopkdnjaaS3RDe
namespace Go.Ab
set_option linter.unusedSimpArgs false
set_option linter.unusedVariables false
set_option maxHeartbeats 4000000

/-! ## EventsFor: results -/
theorem s_heldEventS (l : List EvT) (hl : l.length < 1100000) (hb : ∀ x ∈ l, x.d.length < 1000000000) (h1 : upES 1 l ≤ 100000000000) : X_laws_heldEventS [frS eEv (markES 1 l), .int .i64 1] [] = some (.int .i64 (upES 1 l), []) := by
  have h := l_heldEventS l [] 1 QQ (by unfold QQ; omega) (by simpa using hl) hb (by omega) h1
  simp at h
  simp -implicitDefEqProofs [X_laws_heldEventS, retK_eq, cutK_eq, h]
theorem s_heldEventsResult (c : Int) (l : List EvT) (hl : l.length < 1100000) (hb : ∀ x ∈ l, x.d.length < 1000000000) (h1 : upES 1 l ≤ 100000000000) : X_laws_heldEventsResult [erV c (markES 1 l), .int .i64 1] [] = some (.int .i64 (upES 1 l), []) := by
  have h := s_heldEventS l hl hb h1
  have hup := upES_le 1 l
  have u : ¬ upES 1 l < 0 := by omega
  simp -implicitDefEqProofs [X_laws_heldEventsResult, retK_eq, h, u]
theorem s_eqEventsResult (c : Int) (l : List EvT) (hl : l.length < 1000000000) (hb : ∀ x ∈ l, x.d.length < 1000000000) : X_laws_eqEventsResult [erV c l, erV c l] [] = some (.bool true, []) := by
  have h := s_eqEventS l hl hb
  simp -implicitDefEqProofs [X_laws_eqEventsResult, retK_eq, h]
theorem can_agg {c : Int} {n : Nat} {M : Mem} (H : Can (slO 0 n) M) : Can (.agg #[.int .i64 c, slO 0 n]) M := by
  refine ⟨?_, ?_, H.mem⟩
  · have := H.reach
    simpa using this
  · have := H.val
    simp only [rn_inert_sl] at this
    obtain ⟨n', h1, h2⟩ := ob_eq (show ob (ixOf (List.range M.length) 0) (fun n' => some (Value.slice (some ⟨n', 0, none⟩) n n)) = _ from this)
    simp at h2
    simp [h1, h2]
theorem can_C (l : List EvT) (hl : l.length < 4000000) : Can (slO 0 l.length) (memC 1 l) := can_fam eU8 (ok_C l) (by have := famN_C l; omega)
theorem hd_C (l : List EvT) : HdM (memC 1 l) := hd_fam eU8 eU8_hard (ok_C l) (okH_C l)
theorem fzc_C (l : List EvT) : fz 64 (memC 1 l) (slO 0 l.length) = some (frS eEv l) := by
  have := fz_can eU8 (k := 61) (s := 13) (c := l.length) (es := l.map elC) (ok_C l) (elC_sz l)
  rw [fro_C, List.length_map] at this
  exact this
theorem fzc_erC (c : Int) (l : List EvT) : fz 64 (memC 1 l) (erO c 0 l.length) = some (erV c l) := by
  have : fz 63 (memC 1 l) (slO 0 l.length) = some (frS eEv l) := by
    have := fz_can eU8 (k := 60) (s := 13) (c := l.length) (es := l.map elC) (ok_C l) (elC_sz l)
    rw [fro_C, List.length_map] at this
    exact this
  rw [fz_agg]
  simp only [mapO, this]
  rfl
theorem fzc_erE (c : Int) (l : List EvT) : fz 64 (memAE 1 l) (erO c 0 l.length) = some (erV c l) := by
  have : fz 63 (memAE 1 l) (slO 0 l.length) = some (frS eEv l) := by
    have := fz_AE 60 l.length [] [] l
    simpa using this
  rw [fz_agg]
  simp only [mapO, this]
  rfl
theorem rnh_er (c : Int) (N K n : Nat) (h : 0 < K) : rnV 8 hard (sft N K) (erO c 0 n) = some (erO c N n) := by simp [h]
theorem can_er0 (c : Int) : Can (.agg #[.int .i64 c, nilW]) [] := ⟨by simp, by simp, by simp⟩
theorem rnh_er0 (c : Int) (N : Nat) : rnV 8 hard (sft N 0) (.agg #[.int .i64 c, nilW]) = some (.agg #[.int .i64 c, nilW]) := by simp
theorem fzc_er0 (c : Int) : fz 64 [] (.agg #[.int .i64 c, nilW]) = some (erV c []) := by simp [frS_nil]
theorem L_markEventS0 : X_laws_markEventS [nilW, .int .i64 1] [] = some (.int .i64 1, []) := by
  obtain ⟨q, hq⟩ : ∃ q, QQ = q + 1 := ⟨QQ - 1, by unfold QQ; omega⟩
  simp -implicitDefEqProofs [X_laws_markEventS, L_laws_markEventS, retK_eq, cutK_eq, hq]
theorem s_markEventsResult0 (c : Int) : X_laws_markEventsResult [.agg #[.int .i64 c, nilW], .int .i64 1] [] = some (.int .i64 1, []) := by
  have h := L_markEventS0
  simp -implicitDefEqProofs [X_laws_markEventsResult, retK_eq, h]
theorem s_spec_l15For (l : List EvT) (who : Int) (hl : l.length < 1100000) (hb : ∀ x ∈ l, x.d.length < 1000000000) : X_spec_l15For [frS eEv l, .int .i64 who] [] = some (slO 0 (l.filter (keepE who)).length, memAE 1 (l.filter (keepE who))) := by
  have h := l_spec_l15For who l [] [] QQ (by unfold QQ; omega) (by simpa using hl) (by simp) hb
  have hcut := fun pv J => cut0_fam eU8 (s := 13) (n := 0) (c := 0) (es := ([] : List EvT).map elE) (xs := [frS eEv l, .int .i64 who]) (ys := [.int .i64 0]) (pv := pv) (J := J) rfl rfl (ok_AE []) (by simp [famN])
  simp only [memAE, famB, List.map_nil, List.nil_append, List.length_nil, Int.natCast_zero, List.cons_append, famX, famM] at h hcut
  simp (maxSteps := 400000) -implicitDefEqProofs [X_spec_l15For, hcut, h]
  rfl
theorem s_spec_EventsFor (l : List EvT) (who : Int) (hl : l.length ≤ 40) (hb : ∀ x ∈ l, x.d.length < 1000000000) : X_spec_EventsFor [frS eEv l, .int .i64 who] [] = some (erO 0 0 (l.filter (keepE who)).length, memAE 1 (l.filter (keepE who))) := by
  have h := s_spec_l15For l who (by omega) hb
  have hlen : (l.filter (keepE who)).length ≤ 40 := Nat.le_trans (List.length_filter_le _ _) hl
  generalize l.filter (keepE who) = o at *
  have h1 : ¬ (40 : Int) < l.length := by omega
  obtain ⟨k, m, q, e, ln, g, H⟩ := Has.new (F := fun k => slO k o.length) (m := [blk [.int .i64 0, .slice none 0 0]]) (mapO2 (fz_frS eEv 63 _ l) (fz_int 63 _ .i64 who)) h (can_AE o (by omega)) (hd_AE o) (fun N => rnh_slO N _ _ (by simp))
  have b0 : m[0]? = some (blk [.int .i64 0, .slice none 0 0]) := (g 0 (by simp)).trans rfl
  have hm : 0 < m.length := by rw [ln]; simp; omega
  have H2 : Has (m.set 0 (blk [.int .i64 0, slO k o.length])) _ _ _ _ := H.agree (m' := m.set 0 (blk [.int .i64 0, slO k o.length])) (fun n hn => by
    rw [mem_range'] at hn
    simp at q
    rw [List.getElem?_set_ne (by omega)])
  have hret := fun pv => (H2.part (xs := [.int .i64 0]) (ys := []) rfl rfl).ret pv
  simp only [List.cons_append, List.nil_append] at hret
  have hs : ∀ b, (m.set 0 b)[0]? = some b := fun b => List.getElem?_set_self hm
  clear hm
  simp -implicitDefEqProofs [-fcall_eq, X_spec_EventsFor, h1, e, b0, hs, hret]
theorem s_spec_EventsFor_bad (l : List EvT) (who : Int) (hl : ¬ l.length ≤ 40) : X_spec_EventsFor [frS eEv l, .int .i64 who] [] = some (.agg #[.int .i64 2, .slice none 0 0], []) := by
  have h1 : (40 : Int) < l.length := by omega
  simp -implicitDefEqProofs [X_spec_EventsFor, retK_eq, h1]
theorem s_impl_EventsFor_bad (l : List EvT) (who : Int) (hl : ¬ l.length ≤ 40) : X_impl_EventsFor [frS eEv l, .int .i64 who] [] = some (.agg #[.int .i64 2, .slice none 0 0], []) := by
  have h1 : (40 : Int) < l.length := by omega
  simp -implicitDefEqProofs [X_impl_EventsFor, retK_eq, h1]
theorem s_impl_EventsFor (l : List EvT) (who : Int) (hl : l.length ≤ 40) (hb : ∀ x ∈ l, x.d.length < 1000000000) : X_impl_EventsFor [frS eEv l, .int .i64 who] [] = some (erO 0 0 (l.filter (keepE who)).length, memC 1 (l.filter (keepE who))) := by
  have h := l_impl_EventsFor who l [] [] QQ (by unfold QQ; omega) (by simp; omega) (by simp) hb
  have h1 : ¬ (40 : Int) < l.length := by omega
  have H : Fam eU8 (blk [.int .i64 0, nilW] :: memC 2 []) 1 13 (List.range' 2 0) (([] : List EvT).map elC) := Fam.of_row eU8 rfl (fun i x h => by simp [famM] at h) (by omega) (ok_C [])
  have hcut := fun pv J => H.cut2 eU8 (p := 0) (rb := blk [.int .i64 0, nilW]) rfl rfl (by simp) (by simp) (pv := pv) (J := J) (vs := [.int .i64 who, ptr 0, slO 1 0, frS eEv l, .int .i64 l.length, .int .i64 0]) (vs0 := [.int .i64 who, ptr 0, slO 1 0, frS eEv l, .int .i64 l.length, .int .i64 0]) (by simp) (by simp)
  simp only [memC, famB, List.map_nil, List.nil_append, List.length_nil, Int.natCast_zero, famX, famM] at h hcut ⊢
  simp (maxSteps := 400000) -implicitDefEqProofs [X_impl_EventsFor, hcut, h1, h]
end Go.Ab
