/- What the functions of the program answer, for all arguments that the theorems name as conditions. -/
import Derived.Test.YtkfbpdbopkdnjaaS3RX
import Derived.Test.YtkfbpdbopkdnjaaS3PSl
import Derived.Test.YtkfbpdbopkdnjaaS3P7
namespace Go.Ab
open Go.Proofs
set_option linter.unusedSimpArgs false
set_option linter.unusedVariables false
set_option maxHeartbeats 4000000

/-! ## FnExactParseMany -/
theorem runM_facts : ∀ (l : List Int) (p : ParT) ac p', parF p = 0 → runM p l = some (ac, p') → ac.length ≤ l.length ∧ (∀ x ∈ ac, x.ns.length ≤ 7) ∧ parF p' = 0
  | [], p, ac, p', hp, h => by
    rw [runM] at h
    cases h
    exact ⟨Nat.le_refl _, (fun x hx => by simp at hx), hp⟩
  | c :: r, p, ac, p', hp, h => by
    rw [runM] at h
    split at h
    · rename_i hc
      rw [Option.map_eq_some_iff] at h
      obtain ⟨⟨a0, p0'⟩, h1, h2⟩ := h
      simp only [Prod.mk.injEq] at h2
      obtain ⟨h2, rfl⟩ := h2
      obtain ⟨i1, i2, i3⟩ := runM_facts r _ a0 p0' (step_ok hp (chB_b hc)) h1
      have hl := (step_len (c := c) hp).1
      subst h2
      split
      · exact ⟨by simp; omega, i2, i3⟩
      · refine ⟨by simp; omega, fun x hx => ?_, i3⟩
        rcases List.mem_cons.1 hx with rfl | hx
        · exact hl
        · exact i2 x hx
    · cases h
theorem upAL_up : ∀ (l : List ActT) (t : Int), (∀ x ∈ l, x.ns.length ≤ 7) → upAL t l ≤ t + 11 * l.length
  | [], t, _ => by simp [upAL]
  | a :: r, t, h => by
    have := upAL_up r (upA t a) (fun x hx => h x (by simp [hx]))
    have h1 := h a (by simp)
    rw [upAL, List.length_cons]
    unfold upA at *
    push_cast
    omega
theorem can_bad (c : Int) : Can (bad6 c) [] := ⟨by simp, by simp, by simp⟩
theorem rn_bad (c : Int) (N : Nat) : rnV 8 hard (sft N 0) (bad6 c) = some (bad6 c) := by simp
theorem fz_bad (c : Int) : fz 64 [] (bad6 c) = some (arV c [] p0) := by simp [frS_nil, p0]
theorem s_markActionS_nil : X_laws_markActionS [nil0, .int .i64 1] [] = some (.int .i64 1, []) := by
  obtain ⟨q, hq⟩ : ∃ q, QQ = q + 1 := ⟨QQ - 1, by unfold QQ; omega⟩
  simp -implicitDefEqProofs [X_laws_markActionS, L_laws_markActionS, retK_eq, cutK_eq, hq]
theorem mark_bad (c : Int) : X_laws_markActionsResult [bad6 c, .int .i64 1] [] = some (.int .i64 1, []) := by
  have h := s_markActionS_nil
  obtain ⟨m', g1, g2⟩ := s_markParser p0 nil0 [] 1 (.inl ⟨rfl, rfl, .inl rfl⟩) (by simp [p0]) (by omega) (by omega)
  have : m' = [] := by
    rcases g1 with ⟨_, h, _⟩ | ⟨h, _⟩
    · exact h
    · cases h
  subst this
  simp [p0] at g2
  simp -implicitDefEqProofs [X_laws_markActionsResult, retK_eq, h, g2]
theorem s_FnExactParseMany (p : ParT) (l : List Int) (hl : l.length ≤ 9223372036854775807) (hp : p.ns.length ≤ 9223372036854775807) : X_laws_FnExactParseMany [parV p, frS eI6 l] [] = some (.bool true, []) := by
  by_cases hl2 : (1048576 : Int) < l.length
  · simp (maxSteps := 2000000) -implicitDefEqProofs [X_laws_FnExactParseMany, retK_eq, hl2]
  have S0 := s_szParser p 1048576 hp (by omega) (by omega)
  by_cases h0 : szP p 1048576 < 0
  · simp (maxSteps := 2000000) -implicitDefEqProofs [X_laws_FnExactParseMany, retK_eq, hl2, S0, h0]
  have hpl : p.ns.length < 1000000000 := szN_small (x := 1048576) (by omega) (by unfold szP at h0; omega)
  have hpl2 : p.ns.length ≤ 1048576 := by
    unfold szP szN at h0
    split at h0 <;> omega
  have hll : l.length < 1000000000 := by omega
  have bad : ∀ c, X_spec_ParseMany [parV p, frS eI6 l] [] = some (bad6 c, []) → X_impl_ParseMany [parV p, frS eI6 l] [] = some (bad6 c, []) → X_laws_FnExactParseMany [parV p, frS eI6 l] [] = some (.bool true, []) := fun c S I =>
    law_core p l hll hl2 hpl S0 h0 c 0 0 false nil0 nil0 nil0 nil0 (arV c [] p0) (arV c [] p0) (fun _ => nil0) (fun _ => nil0) (fun _ => nil0) (fun _ => nil0) [] [] [] 1 (by omega) (fun _ => rfl) (fun _ => rfl) (fun _ => rfl) (fun _ => rfl) S (can_bad c) hd_nil (rn_bad c) (fz_bad c) I (can_bad c) hd_nil (rn_bad c) (fz_bad c) (s_eqActionsResult c [] p0 (by simp) (by simp) (by simp [p0])) (mark_bad c) (can_bad c) rfl (fz_bad c) (by
      have := s_heldActionsResult c [] p0 0 (by simp) (by simp) (by omega) (by simp [upAL])
      simp [markAL, upAL, markI] at this
      exact this)
  by_cases hk : pmC p l = 0
  · have hf : parF p = 0 := by
      unfold pmC at hk
      split at hk
      · assumption
      · exact absurd hk (by assumption)
    have hlen : l.length ≤ 2000 := by
      unfold pmC at hk
      rw [if_pos hf] at hk
      split at hk
      · assumption
      · cases hk
    have hp6 : p.ns.length < 1000000 := by
      obtain ⟨f1, f2, f3, _⟩ := par_facts hf
      by_cases h2 : p.k = 2
      · have := (f3 h2).2.1
        omega
      · rw [(f2 h2).1]
        simp
    obtain ⟨a1, a2⟩ := s_impl_PM p l hp6 hk
    obtain ⟨b1, b2⟩ := s_spec_PM p l hp6 hk
    cases hr : runM p l with
    | none => exact bad 3 (b1 hr) (a1 hr)
    | some x =>
      obtain ⟨ac, p'⟩ := x
      obtain ⟨f1, f2, f3⟩ := runM_facts l p ac p' hf hr
      have hp' : p'.ns.length ≤ 6 := by
        obtain ⟨_, g2, g3, _⟩ := par_facts f3
        by_cases h2 : p'.k = 2
        · exact (g3 h2).2.1
        · rw [(g2 h2).1]
          simp
      obtain ⟨es, v, Q, i1, i2, i3, I⟩ := a2 ac p' hr
      have hel : es.length = ac.length := by rw [← i1, List.length_map]
      have hup := upAL_up ac 1 f2
      have hup0 := upAL_le 1 ac
      have hb1 : ∀ x ∈ es, x.1.ns.length < 1000000000 := fun x hx => by
        have := f2 x.1 (by rw [← i1]; exact List.mem_map.2 ⟨x, hx, rfl⟩)
        omega
      obtain ⟨Q', j1, j2, K⟩ := s_markActionsResult 0 p' v Q es i3 (by omega) hb1 i2 (by omega) (by rw [upAS_fst, i1]; omega)
      have j1' : SLT (⟨p'.k, p'.s, p'.lead, markI (upAS 1 es) p'.ns.length⟩ : ParT).ns v Q' 1 := j1
      have hm : (markAS 1 es).map Prod.fst = markAL 1 ac := by rw [markAS_fst, i1]
      have hus : upAS 1 es = upAL 1 ac := by rw [upAS_fst, i1]
      have fzI := arM_fz 0 es i3 i2 (by omega)
      rw [i1] at fzI
      have canK := arM_can 0 (markAS 1 es) j1' (by rw [markAS_len]; omega)
      rw [markAS_len] at canK
      have fzK := arM_fz 0 (markAS 1 es) j1' (markAS_ok 1 i2) (by rw [markAS_len]; omega)
      rw [markAS_len, hm, hus] at fzK
      have HH := s_heldActionsResult 0 ac p' p'.ns.length (by omega) (fun x hx => by have := f2 x hx; omega) (by omega) (by omega)
      rw [hus] at K
      have lenK : (arM Q' (markAS 1 es)).length = (arM Q es).length := by rw [arM_len, arM_len, famN_markAS, j2]
      have E := s_eqActionsResult 0 ac p' (by omega) (fun x hx => by have := f2 x hx; omega) (by omega)
      rcases b2 ac p' hr with ⟨e0, vS, QS, hs, S⟩ | ⟨esS, vS, QS, k1, k2, hs, S⟩
      · have canS : Can (.agg (arC 0 p' nil0 vS).toArray) QS := by
          rcases hs with ⟨_, rfl, rfl | rfl⟩ | ⟨rfl, rfl⟩ <;> exact ⟨by simp, by simp, by simp⟩
        have hdS : HdM QS := by
          rcases hs with ⟨_, rfl, _⟩ | ⟨_, rfl⟩
          · exact hd_nil
          · exact hd_own eI6 eI6_hard _
        have rnS : ∀ N, rnV 8 hard (sft N QS.length) (.agg (arC 0 p' nil0 vS).toArray) = some (.agg (arC 0 p' nil0 (vK vS N)).toArray) := fun N => by
          rcases hs with ⟨_, rfl, rfl | rfl⟩ | ⟨rfl, rfl⟩ <;> simp [vK]
        have fzS : fz 64 QS (.agg (arC 0 p' nil0 vS).toArray) = some (arV 0 ac p') := by
          subst e0
          rcases hs with ⟨e, rfl, rfl | rfl⟩ | ⟨rfl, rfl⟩
          · simp [frS_nil, e]
          · simp [frS_nil, e]
          · simp [frS_nil]
        exact law_core p l hll hl2 hpl S0 h0 0 p'.k p'.s p'.lead nil0 vS (slO 0 es.length) v _ _ (fun _ => nil0) (vK vS) (fun k => slO k es.length) (vK v) QS (arM Q es) (arM Q' (markAS 1 es)) _ (by omega) (fun _ => rfl) (vK_flat hs) (fun _ => rfl) (vK_flat i3) S canS hdS rnS fzS I (arM_can 0 es i3 (by omega)) (arM_hd es i3) (arM_rn 0 es i3 _) fzI E K canK lenK fzK HH
      · have hel2 : esS.length = ac.length := by rw [← k1, List.length_map]
        have fzS := arM_fz 0 esS hs k2 (by omega)
        rw [k1] at fzS
        exact law_core p l hll hl2 hpl S0 h0 0 p'.k p'.s p'.lead (slO 0 esS.length) vS (slO 0 es.length) v _ _ (fun k => slO k esS.length) (vK vS) (fun k => slO k es.length) (vK v) (arM QS esS) (arM Q es) (arM Q' (markAS 1 es)) _ (by omega) (fun _ => rfl) (vK_flat hs) (fun _ => rfl) (vK_flat i3) S (arM_can 0 esS hs (by omega)) (arM_hd esS hs) (arM_rn 0 esS hs _) fzS I (arM_can 0 es i3 (by omega)) (arM_hd es i3) (arM_rn 0 es i3 _) fzI E K canK lenK fzK HH
  · exact bad _ (s_spec_PM_bad p l hpl hk) (s_impl_PM_bad p l hpl hk)
def good : List Nat := [2, 4, 28, 50]
theorem good_ok : goodB CT good = true := by kernel_rfl
theorem all_FnExactParseMany : ∀ xs, TypedAll CT [50, 28] xs → Fz CT 6 xs (.bool true)
  | [a, b], h => by
    obtain ⟨p, rfl, hp⟩ := typed_par h.1
    obtain ⟨l, rfl, hl, _⟩ := typed_i64s (s := 28) (i := 2) h.2.1 rfl rfl rfl
    exact fz_law ok_X_laws_FnExactParseMany (s_FnExactParseMany p l hl hp) (by simp)
  | [], h => h.elim
  | [_], h => h.2.elim
  | _ :: _ :: _ :: _, h => h.2.2.elim
end Go.Ab
