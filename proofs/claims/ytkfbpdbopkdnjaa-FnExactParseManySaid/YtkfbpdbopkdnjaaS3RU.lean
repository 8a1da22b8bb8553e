/- What the functions of the program answer, for all arguments that the theorems name as conditions. -/
import Derived.Test.YtkfbpdbopkdnjaaS3RS
import Derived.Test.YtkfbpdbopkdnjaaS3RN
import Derived.Test.YtkfbpdbopkdnjaaS3RP
import Derived.Test.YtkfbpdbopkdnjaaS3B2
import Derived.Test.YtkfbpdbopkdnjaaS3B1i
import Derived.Test.YtkfbpdbopkdnjaaS3B1f
namespace Go.Ab
set_option linter.unusedSimpArgs false
set_option linter.unusedVariables false
set_option maxHeartbeats 4000000

/-! ## Results with actions: frozen, answered -/
abbrev arV (c : Int) (l : List ActT) (p : ParT) : Value := .agg (arC c p (frS eAc l) (frS eI6 p.ns)).toArray
theorem fro_Ac (l : List (ActT × Bool)) (hg : ∀ x ∈ l, okA x) : roS (l.map elA).length ((l.map elA).flatMap (El.fro eI6)) = frS eAc (l.map Prod.fst) := by
  rw [List.length_map]
  unfold frS
  rw [List.length_map]
  congr 1
  induction l with
  | nil => rfl
  | cons x r ih =>
    have e : El.fro eI6 (elA x) = eAc.f x.1 := by
      have hx := hg x (by simp)
      unfold elA
      cases h : x.2 with
      | true => rfl
      | false =>
        have := hx h
        show actPre x.1 ++ (roS 0 [] :: []) = actPre x.1 ++ [frS eI6 x.1.ns]
        rw [this]
        rfl
    rw [List.map_cons, List.flatMap_cons, e, List.map_cons, cellsE_cons, ← ih fun y hy => hg y (by simp [hy])]
theorem shB_famk {α : Type} (E : Enc α) (N K k s : Nat) (es : List (El α)) (hok : ∀ e ∈ es, e.ok E) (hH : ∀ e ∈ es, e.okH) (hK : k + famN es ≤ K) : ∃ b, shB N K (famB k s es) = some b := by
  have hr := fam_rnH E (j := 7) (π := sft N K) es k (N + k) hok hH (fun i hi => by unfold sft; rw [if_pos (by omega)]; congr 1; omega)
  unfold shB famB
  rw [if_pos ⟨rfl, rfl⟩]
  split
  · exact ⟨_, rfl⟩
  · exact ⟨_, by rw [hr]; rfl⟩
theorem arM_hd {p : ParT} {v : Value} {Q : Mem} (es : List (ActT × Bool)) (hs : SLT p.ns v Q 1) : HdM (arM Q es) := by
  intro N
  refine mapB_mk fun i b hb => ?_
  have hm := List.mem_of_getElem? hb
  rcases List.mem_cons.1 hm with rfl | hm
  · exact shB_famk eI6 _ _ _ _ _ (ok_Al es) (okH_Al es) (by rw [arM_len]; omega)
  · have : ∃ l : List Int, b = ownB eI6 l := by
      rcases List.mem_append.1 hm with h | h
      · rcases hs with ⟨_, rfl, _⟩ | ⟨_, rfl⟩
        · cases h
        · exact ⟨p.ns, by simpa using h⟩
      · obtain ⟨j, hj, rfl⟩ := List.getElem_of_mem h
        exact fam_own eI6 _ j _ (List.getElem?_eq_getElem hj)
    obtain ⟨l, rfl⟩ := this
    exact ⟨_, shB_own eI6 eI6_hard _ _ l⟩
theorem arM_fam (Q : Mem) (es : List (ActT × Bool)) : Fam eI6 (arM Q es) 0 5 (List.range' (1 + Q.length) (famN (es.map elA))) (es.map elA) := by
  refine Fam.of_row eI6 rfl (fun i x h => ?_) (by omega) (ok_Al es)
  have := in_row (famB (1 + Q.length) 5 (es.map elA) :: Q) (famM eI6 (es.map elA)) [] (b := 1 + Q.length) (k := i + 1) (i := i) (n := 1 + Q.length + i) (by simp; omega) (by rw [List.getElem?_range' (by omega)]; simp) h
  simpa using this
/-- A value that a result's parser holds, moved. -/
def vK (v : Value) (k : Nat) : Value := match v with
  | .slice (some ⟨n, o, none⟩) l c => .slice (some ⟨n + k, o, none⟩) l c
  | v => v
theorem arM_can (c : Int) {p : ParT} {v : Value} {Q : Mem} (es : List (ActT × Bool)) (hs : SLT p.ns v Q 1) (hn : es.length ≤ 1100000) : Can (.agg (arC c p (slO 0 es.length) v).toArray) (arM Q es) := by
  have hN := famN_A es
  have hl := arM_len Q es
  have H := arM_fam Q es
  unfold Can
  rw [hl]
  rcases hs with ⟨e1, rfl, e3⟩ | ⟨rfl, rfl⟩
  · obtain ⟨h1, h2⟩ := H.can1 eI6 (by simp; omega)
    have e : (0 :: List.range' (1 + ([] : Mem).length) (famN (es.map elA))) = List.range (1 + ([] : Mem).length + famN (es.map elA)) := by
      rw [List.length_nil, Nat.add_zero, Nat.add_comm 1, range_fam]
    rw [e] at h1 h2
    rcases e3 with rfl | rfl
    · exact has_of h1 h2 (by rw [← e]; simp)
    · exact has_of h1 h2 (by rw [← e]; simp)
  · obtain ⟨h1, h2⟩ := H.can1y eI6 eI6 (y := 1) (l := p.ns) rfl (by
      rw [List.nodup_cons, List.nodup_cons]
      refine ⟨fun h => ?_, fun h => ?_, List.nodup_range'⟩
      · rw [List.mem_cons, mem_range'] at h
        simp at h
      · rw [mem_range'] at h
        simp at h) (by simp; omega)
    have e : (0 :: 1 :: List.range' (1 + [ownB eI6 p.ns].length) (famN (es.map elA))) = List.range (1 + [ownB eI6 p.ns].length + famN (es.map elA)) := by
      rw [List.length_singleton, show 1 + 1 + famN (es.map elA) = famN (es.map elA) + 1 + 1 by omega, List.range_eq_range', List.range'_succ, List.range'_succ]
    rw [e] at h1 h2
    exact has_of (by simpa using h1) h2 (by rw [← e]; simp)
theorem arM_rn (c : Int) {p : ParT} {v : Value} {Q : Mem} (es : List (ActT × Bool)) (hs : SLT p.ns v Q 1) (n N : Nat) : rnV 8 hard (sft N (arM Q es).length) (.agg (arC c p (slO 0 n) v).toArray) = some (.agg (arC c p (slO N n) (vK v N)).toArray) := by
  have hl := arM_len Q es
  have h0 : 0 < (arM Q es).length := by omega
  generalize (arM Q es).length = K at *
  rcases hs with ⟨e1, rfl, rfl | rfl⟩ | ⟨rfl, rfl⟩
  · simp [h0, vK]
  · simp [h0, vK]
  · have h1 : 1 < K := by simp at hl; omega
    simp [h0, h1, vK]
theorem vK_flat {p : ParT} {v : Value} {Q : Mem} {a : Nat} (hs : SLT p.ns v Q a) (k : Nat) : flat (vK v k) = true := by
  rcases hs with ⟨e1, rfl, rfl | rfl⟩ | ⟨rfl, rfl⟩ <;> rfl
theorem arM_fz (c : Int) {p : ParT} {v : Value} {Q : Mem} (es : List (ActT × Bool)) (hs : SLT p.ns v Q 1) (hg : ∀ x ∈ es, okA x) (hn : es.length ≤ 1100000) : fz 64 (arM Q es) (.agg (arC c p (slO 0 es.length) v).toArray) = some (arV c (es.map Prod.fst) p) := by
  have hN := famN_A es
  have H := arM_fam Q es
  obtain ⟨h1, h2⟩ := H.can1 eI6 (by simp; omega)
  have HS : Has (arM Q es) (slO 0 es.length) _ (slO 0 es.length) (memAc 1 es) := has_of h1 h2 (by simp)
  have f1 : fz 63 (arM Q es) (slO 0 es.length) = some (frS eAc (es.map Prod.fst)) := by
    have := HS.fz (k := 63) (fz_can eI6 (k := 60) (s := 5) (c := es.length) (es := es.map elA) (ok_Al es) (elA_sz es) |> fun h => by rwa [List.length_map] at h)
    rw [this, ← fro_Ac es hg, List.length_map]
  have f2 : fz 63 (arM Q es) v = some (frS eI6 p.ns) := by
    rcases hs with ⟨e1, rfl, rfl | rfl⟩ | ⟨rfl, rfl⟩
    · rw [e1]; rfl
    · rw [e1]; rfl
    · simp
  rw [fz_agg]
  simp only [mapO, f1, f2]
  rfl
end Go.Ab
