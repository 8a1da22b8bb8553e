/- What the functions of the program answer, for all arguments that the theorems name as conditions. -/
import Derived.Test.YtkfbpdbopkdnjaaS3RU
namespace Go.Ab
set_option linter.unusedSimpArgs false
set_option linter.unusedVariables false
set_option maxHeartbeats 4000000

/-! ## ParseMany of both -/
abbrev bad6 (c : Int) : Value := .agg #[.int .i64 c, nil0, .int .i64 0, .int .i64 0, .bool false, nil0]
def pmC (p : ParT) (l : List Int) : Int := if parF p = 0 then (if l.length ≤ 2000 then 0 else 2) else parF p
theorem s_impl_PM_bad (p : ParT) (l : List Int) (hp : p.ns.length < 1000000000) (h : pmC p l ≠ 0) : X_impl_ParseMany [parV p, frS eI6 l] [] = some (bad6 (pmC p l), []) := by
  have c1 := s_impl_ParserFault p hp
  have c2 := s_impl_unless (decide ((l.length : Int) ≤ 2000)) 2
  have c3 := s_impl_first (parF p) (unl (decide ((l.length : Int) ≤ 2000)) 2)
  have e : (if parF p = 0 then unl (decide ((l.length : Int) ≤ 2000)) 2 else parF p) = pmC p l := by
    unfold pmC unl
    by_cases h1 : l.length ≤ 2000
    · have : (l.length : Int) ≤ 2000 := by omega
      simp [h1, this]
    · have : ¬ (l.length : Int) ≤ 2000 := by omega
      simp [h1, this]
  rw [e] at c3
  simp (maxSteps := 400000) -implicitDefEqProofs [X_impl_ParseMany, retK_eq, c1, c2, c3, h]
theorem s_spec_PM_bad (p : ParT) (l : List Int) (hp : p.ns.length < 1000000000) (h : pmC p l ≠ 0) : X_spec_ParseMany [parV p, frS eI6 l] [] = some (bad6 (pmC p l), []) := by
  have c1 := s_spec_l4Fault p hp []
  unfold pmC at *
  by_cases h1 : parF p = 0
  · rw [if_pos h1] at h ⊢
    by_cases h2 : l.length ≤ 2000
    · rw [if_pos h2] at h
      exact absurd rfl h
    · have h2' : (2000 : Int) < l.length := by omega
      rw [if_neg h2]
      rw [h1] at c1
      simp (maxSteps := 400000) -implicitDefEqProofs [X_spec_ParseMany, retK_eq, c1, h2']
  · rw [if_neg h1]
    simp (maxSteps := 400000) -implicitDefEqProofs [X_spec_ParseMany, retK_eq, c1, h1]
theorem famE {m : Mem} {j : Nat} (h : m[j]? = some ⟨[], 5, true, true⟩) : Fam eI6 m j 5 [] (([] : List (ActT × Bool)).map elA) := ⟨h, rfl, by simp, fun i n b h1 => by simp at h1, fun e he => by simp at he⟩
theorem s_impl_PM (p : ParT) (l : List Int) (hp : p.ns.length < 1000000) (h : pmC p l = 0) :
    (runM p l = none → X_impl_ParseMany [parV p, frS eI6 l] [] = some (bad6 3, [])) ∧
    ∀ ac p', runM p l = some (ac, p') → ∃ es v Q, es.map Prod.fst = ac ∧ (∀ x ∈ es, okA x) ∧ SLT p'.ns v Q 1 ∧ X_impl_ParseMany [parV p, frS eI6 l] [] = some (.agg (arC 0 p' (slO 0 es.length) v).toArray, arM Q es) := by
  have hf : parF p = 0 := by
    unfold pmC at h
    split at h
    · assumption
    · exact absurd h (by assumption)
  have hlen : l.length ≤ 2000 := by
    unfold pmC at h
    rw [if_pos hf] at h
    split at h
    · assumption
    · cases h
  have c1 := s_impl_ParserFault p (by omega)
  have h2 : (l.length : Int) ≤ 2000 := by omega
  have c2 := s_impl_unless true 2
  have c3 := s_impl_first 0 0
  rw [hf] at c1
  simp only [unl, if_true] at c2 c3
  have main : ∀ G, (∃ vp' Q', SLT p.ns vp' Q' 3 ∧ L_impl_ParseMany 0 QQ 0 [ptr 0, ptr 1, slO 2 0, frS eI6 l, .int .i64 l.length, .int .i64 0] (parB p vp' :: resZ :: famB (3 + Q'.length) 5 (([] : List (ActT × Bool)).map elA) :: (Q' ++ famM eI6 (([] : List (ActT × Bool)).map elA))) = G) → True := fun _ _ => trivial
  have key : ∃ vp' Q', SLT p.ns vp' Q' 3 ∧ X_impl_ParseMany [parV p, frS eI6 l] [] = L_impl_ParseMany 0 QQ 0 [ptr 0, ptr 1, slO 2 0, frS eI6 l, .int .i64 l.length, .int .i64 0] (parB p vp' :: resZ :: famB (3 + Q'.length) 5 (([] : List (ActT × Bool)).map elA) :: (Q' ++ famM eI6 (([] : List (ActT × Bool)).map elA))) := by
    by_cases hn : p.ns = []
    · have c4 := s_impl_Parser_clone0 p hn
      obtain ⟨vp', Q', hs', hcut⟩ := cutP (m := [parB p (roS 0 []), resZ, ⟨[.int .i64 0, .int .i64 0], 1, true, true⟩, ⟨[], 5, true, true⟩]) (j := 3) (n := 0) (p2 := p) (vp := roS 0 []) (x1 := frS eI6 l) (x2 := .int .i64 l.length) (x3 := .int .i64 0) rfl rfl (famE rfl) (by omega) (by simp) (by simp) (.inl ⟨hn, .inr rfl⟩) rfl
      refine ⟨vp', Q', hs', ?_⟩
      generalize hG : L_impl_ParseMany 0 QQ 0 _ _ = G
      have hcut := fun pv => (hcut pv (L_impl_ParseMany 0 QQ 0)).trans hG
      simp (maxSteps := 400000) -implicitDefEqProofs [X_impl_ParseMany, c1, c2, c3, c4, h2, hcut]
    · have c4 := s_impl_Parser_clone p (by omega) hn
      obtain ⟨vp', Q', hs', hcut⟩ := cutP (m := [parB p (slO 4 p.ns.length), resZ, ⟨[.int .i64 0, .int .i64 0], 1, true, true⟩, ⟨[], 5, true, true⟩, ownB eI6 p.ns]) (j := 3) (n := 0) (p2 := p) (vp := slO 4 p.ns.length) (x1 := frS eI6 l) (x2 := .int .i64 l.length) (x3 := .int .i64 0) rfl rfl (famE rfl) (by omega) (by simp) (by simp) (.inr ⟨4, rfl, rfl, by omega, by omega, by simp⟩) rfl
      refine ⟨vp', Q', hs', ?_⟩
      generalize hG : L_impl_ParseMany 0 QQ 0 _ _ = G
      have hcut := fun pv => (hcut pv (L_impl_ParseMany 0 QQ 0)).trans hG
      simp (maxSteps := 400000) -implicitDefEqProofs [X_impl_ParseMany, c1, c2, c3, c4, h2, hcut]
  obtain ⟨vp', Q', hs', hL⟩ := key
  obtain ⟨i1, i2⟩ := l_impl_ParseMany l [] p vp' Q' [] QQ (by unfold QQ; omega) (by simp; omega) (by simp) hf hs' (fun x hx => by simp at hx)
  rw [hL]
  refine ⟨i1, fun ac p' h => ?_⟩
  obtain ⟨es2, v', Q2, g1, g2, g3, g4⟩ := i2 ac p' h
  exact ⟨es2, v', Q2, g1, g2, g3, g4⟩
theorem s_spec_PM (p : ParT) (l : List Int) (hp : p.ns.length < 1000000) (h : pmC p l = 0) :
    (runM p l = none → X_spec_ParseMany [parV p, frS eI6 l] [] = some (bad6 3, [])) ∧
    ∀ ac p', runM p l = some (ac, p') → (ac = [] ∧ ∃ v Q, SLT p'.ns v Q 0 ∧ X_spec_ParseMany [parV p, frS eI6 l] [] = some (.agg (arC 0 p' nil0 v).toArray, Q)) ∨ ∃ es v Q, es.map Prod.fst = ac ∧ (∀ x ∈ es, okA x) ∧ SLT p'.ns v Q 1 ∧ X_spec_ParseMany [parV p, frS eI6 l] [] = some (.agg (arC 0 p' (slO 0 es.length) v).toArray, arM Q es) := by
  have hf : parF p = 0 := by
    unfold pmC at h
    split at h
    · assumption
    · exact absurd h (by assumption)
  have hlen : l.length ≤ 2000 := by
    unfold pmC at h
    rw [if_pos hf] at h
    split at h
    · assumption
    · cases h
  have c1 := s_spec_l4Fault p (by omega) []
  have h2 : ¬ (2000 : Int) < l.length := by omega
  have c4 := s_spec_l4Copy p (by omega)
  rw [hf] at c1
  obtain ⟨i1, i2⟩ := l_spec0 l [] p (slO 2 p.ns.length) [ownB eI6 p.ns] QQ (by unfold QQ; omega) (by simp; omega) hf (.inr ⟨rfl, rfl⟩)
  have hL : X_spec_ParseMany [parV p, frS eI6 l] [] = L_spec_ParseMany 0 QQ 0 [frS eI6 l, ptr 0, ptr 1, .int .i64 0] (zB :: blk (outC p nil0 (slO 2 p.ns.length)) :: [ownB eI6 p.ns]) := by
    simp (maxSteps := 400000) -implicitDefEqProofs [X_spec_ParseMany, cutK_eq, c1, c4, h2]
  rw [hL]
  exact ⟨i1, i2⟩
end Go.Ab
