/- What the functions of the program answer, for all arguments that the theorems name as conditions. -/
import Derived.Test.YtkfbpdbopkdnjaaS3RQ
import Derived.Test.YtkfbpdbopkdnjaaFD
namespace Go.Ab
set_option linter.unusedSimpArgs false
set_option linter.unusedVariables false
set_option maxHeartbeats 4000000

/-! ## Results with actions -/
abbrev arC (c : Int) (p : ParT) (w v : Value) : List Value := [.int .i64 c, w, .int .i64 p.k, .int .i64 p.s, .bool p.lead, v]
abbrev arM (Q : Mem) (es : List (ActT × Bool)) : Mem := famB (1 + Q.length) 5 (es.map elA) :: (Q ++ famM eI6 (es.map elA))
theorem arM_len (Q : Mem) (es : List (ActT × Bool)) : (arM Q es).length = 1 + Q.length + famN (es.map elA) := by
  show (Q ++ famM eI6 (es.map elA)).length + 1 = _
  rw [List.length_append, famM_len]
  omega
theorem arM_ok {p : ParT} {v : Value} {Q : Mem} (es : List (ActT × Bool)) (hs : SLT p.ns v Q 1) (hn : es.length ≤ 1100000) : OkM (arM Q es) ∧ (arM Q es).length + nms (arM Q es) < 4194304 := by
  have hN := famN_A es
  have hl := arM_len Q es
  have hQ : Q.length ≤ 1 ∧ nms Q = 0 ∧ ∀ b ∈ Q, ∃ l : List Int, b = ownB eI6 l := by
    rcases hs with ⟨_, rfl, _⟩ | ⟨_, rfl⟩
    · exact ⟨by simp, rfl, fun b hb => by cases hb⟩
    · exact ⟨by simp, by simp [nms], fun b hb => ⟨p.ns, by simpa using hb⟩⟩
  refine ⟨fun b hb => ?_, ?_⟩
  · rw [hl]
    rcases List.mem_cons.1 hb with rfl | hb
    · exact famB_ok eI6 (ok_Al es) (by omega)
    · rcases List.mem_append.1 hb with hb | hb
      · obtain ⟨l, rfl⟩ := hQ.2.2 b hb
        exact own_ok eI6 l
      · exact famM_ok eI6 _ b hb
  · rw [hl]
    have h1 : nms (arM Q es) = famN (es.map elA) := by
      show nms (famB _ 5 _ :: (Q ++ famM eI6 _)) = _
      rw [nms_cons, nms_app, nms_fam, hQ.2.1, famB, nmB_fam eI6 (es.map elA) _ 5 true (ok_Al es)]
      simp
    omega
theorem s_markActionS (l : List (ActT × Bool)) (t : Int) (hl : l.length < 1100000) (hb : ∀ x ∈ l, x.1.ns.length < 1000000000) (hg : ∀ x ∈ l, okA x) (h0 : 0 ≤ t) (h1 : upAS t l ≤ 100000000000) : X_laws_markActionS [slO 0 l.length, .int .i64 t] (memAc 1 l) = some (.int .i64 (upAS t l), memAc 1 (markAS t l)) := by
  have h := l_markActionS l [] t QQ l.length (famN (l.map elA)) (by unfold QQ; omega) rfl rfl hl hb hg h0 h1
  have hle := famN_A l
  have hcut := fun pv J => cutN_fam eI6 (k := famN (l.map elA) + 1) (s := 5) (n := l.length) (c := l.length) (es := l.map elA) (xs := []) (ys := [.int .i64 t, .int .i64 0]) (pv := pv) (J := J) rfl rfl rfl (ok_Al _) (by omega)
  simp only [List.nil_append, List.length_nil, Int.natCast_zero] at h hcut
  have hcut : ∀ pv J, cutK (famN (l.map elA) + 1) (memAc 1 l) pv [slO 0 l.length, .int .i64 t, .int .i64 0] J = J [slO 0 l.length, .int .i64 t, .int .i64 0] (memAc 1 l) := hcut
  have hM : (memAc 1 l).length = famN (l.map elA) + 1 := by simp
  generalize memAc 1 l = M at *
  simp (maxSteps := 400000) -implicitDefEqProofs [X_laws_markActionS, hM, hcut, h]
theorem rcall_none {X : List Value → Mem → Option VM} {m : Mem} {args : List Value} {v : Value} (h1 : args.flatMap (nmV 8) = []) (h3 : mapO (rnV 8 inert (ixOf [])) args = some args) (hv : scal v = true) (hX : X args [] = some (v, [])) : rcall X args m = some (v, m) := by
  rw [rcall_eq, h1]
  simp only [reach_nil, bo_some, h3, locM_nil, hX, List.length_nil, Nat.le_refl, if_true, rnV_scal hv]
  simp [mapB]
theorem rcall_oneS {α : Type} (E : Enc α) {X : List Value → Mem → Option VM} {m : Mem} {a n c : Nat} {xs rest : List Value} {l l' : List α} {v : Value} (hm : m[a]? = some (ownB E l)) (hxs : xs.all scal = true) (hrest : rest.all scal = true) (hv : scal v = true) (hX : X (.agg (xs ++ [Value.slice (some ⟨0, 0, none⟩) n c]).toArray :: rest) [ownB E l] = some (v, [ownB E l'])) : rcall X (.agg (xs ++ [Value.slice (some ⟨a, 0, none⟩) n c]).toArray :: rest) m = some (v, m.set a (ownB E l')) := by
  have hnm : (Value.agg (xs ++ [Value.slice (some ⟨a, 0, none⟩) n c]).toArray :: rest).flatMap (nmV 8) = [a] := by
    rw [List.flatMap_cons, nm_scal hrest, nmV_agg, show (xs ++ [Value.slice (some ⟨a, 0, none⟩) n c]).toArray.toList = xs ++ [Value.slice (some ⟨a, 0, none⟩) n c] from rfl, List.flatMap_append, nm_scal hxs]
    rfl
  have hrn : mapO (rnV 8 inert (ixOf [a])) (.agg (xs ++ [Value.slice (some ⟨a, 0, none⟩) n c]).toArray :: rest) = some (.agg (xs ++ [Value.slice (some ⟨0, 0, none⟩) n c]).toArray :: rest) := by
    have hr := rn_scal (j := 7) (π := ixOf [a]) (l := rest) (r := []) hrest
    rw [List.append_nil] at hr
    rw [mapO_cons, rn_inert_agg, show (xs ++ [Value.slice (some ⟨a, 0, none⟩) n c]).toArray.toList = xs ++ [Value.slice (some ⟨a, 0, none⟩) n c] from rfl, rn_scal hxs, hr]
    simp [mapO]
  have hre : reachF 4194304 m [a] [] = some [a] := by
    rw [reach_cons, if_neg (by simp), hm]
    simp only [nmB_own, List.append_nil, List.nil_append]
    rfl
  have hlo : locM m [a] [a] = some [ownB E l] := by
    rw [locM_cons, hm]
    simp only [locB_own, bo_some]
    rfl
  rw [rcall_eq, hnm, hre, bo_some, hrn, bo_some, hlo, bo_some, hX, bo_some]
  simp only [List.length_singleton, Nat.le_refl, if_true]
  rw [rnV_scal hv, bo_some, mapB_cons, bkB_own, bo_some]
  simp
theorem s_markActionsResult (c : Int) (p : ParT) (v : Value) (Q : Mem) (es : List (ActT × Bool)) (hs : SLT p.ns v Q 1) (hl : es.length < 1000000) (hb : ∀ x ∈ es, x.1.ns.length < 1000000000) (hg : ∀ x ∈ es, okA x) (hp : p.ns.length < 1000000) (h1 : upAS 1 es ≤ 1000000000) : ∃ Q', SLT (markI (upAS 1 es) p.ns.length) v Q' 1 ∧ Q'.length = Q.length ∧ X_laws_markActionsResult [.agg (arC c p (slO 0 es.length) v).toArray, .int .i64 1] (arM Q es) = some (.int .i64 (upAS 1 es + p.ns.length), arM Q' (markAS 1 es)) := by
  have hup := upAS_le 1 es
  have hN := famN_A es
  have h := rcall_famG eI6 [] Q [blk (arC c p (slO 0 es.length) v)] 5 es.length es.length (es.map elA) ((markAS 1 es).map elA) [.int .i64 1] (.int .i64 (upAS 1 es)) rfl rfl (ok_Al es) (ok_Al _) (famN_markAS 1 es) (by omega) (s_markActionS es 1 (by omega) hb hg (by omega) (by omega))
  simp only [List.nil_append, List.length_nil, Nat.zero_add] at h
  have hlA := arM_len Q es
  rcases hs with ⟨e1, rfl, e3⟩ | ⟨rfl, rfl⟩
  · refine ⟨[], .inl ⟨by rw [e1]; rfl, rfl, e3⟩, rfl, ?_⟩
    obtain ⟨ok, okl⟩ := arM_ok (p := p0) (v := nil0) (Q := []) (markAS 1 es) (.inl ⟨rfl, rfl, .inl rfl⟩) (by rw [markAS_len]; omega)
    have hret := fun pv => OkM.retA [blk (arC c p (slO 0 es.length) v)] ok okl (v := .int .i64 (upAS 1 es + p.ns.length)) rfl pv
    rw [arM_len, famN_markAS, ← hlA] at hret
    obtain ⟨m', g1, g2⟩ := s_markParser p v [] (upAS 1 es) (.inl ⟨e1, rfl, e3⟩) (by omega) (by omega) (by omega)
    have hm' : m' = [] := by
      rcases g1 with ⟨_, h, _⟩ | ⟨h, _⟩
      · exact h
      · rcases e3 with rfl | rfl <;> cases h
    subst hm'
    have hM2 : (arM [] (markAS 1 es)).length = (arM [] es).length := by rw [arM_len, arM_len, famN_markAS]
    have h : rcall X_laws_markActionS [slO 0 es.length, .int .i64 1] (arM [] es ++ [blk (arC c p (slO 0 es.length) v)]) = some (.int .i64 (upAS 1 es), arM [] (markAS 1 es) ++ [blk (arC c p (slO 0 es.length) v)]) := h
    have c2 : ∀ m, rcall X_laws_markParser [parW p v, .int .i64 (upAS 1 es)] m = some (.int .i64 (upAS 1 es + p.ns.length), m) := fun m => rcall_none (by rcases e3 with rfl | rfl <;> simp) (by rcases e3 with rfl | rfl <;> simp [mapO]) rfl g2
    have hbx : (arM [] (markAS 1 es) ++ [blk (arC c p (slO 0 es.length) v)])[(arM [] es).length]? = some (blk (arC c p (slO 0 es.length) v)) := by rw [← hM2]; simp
    generalize arM [] es = M at *
    generalize arM [] (markAS 1 es) = M2 at *
    rcases e3 with rfl | rfl <;> simp (maxSteps := 400000) -implicitDefEqProofs [-rcall_eq, X_laws_markActionsResult, h, hbx, c2, hret]
  · refine ⟨[ownB eI6 (markI (upAS 1 es) p.ns.length)], .inr ⟨by simp, rfl⟩, rfl, ?_⟩
    obtain ⟨ok, okl⟩ := arM_ok (p := ⟨0, 0, false, markI (upAS 1 es) p.ns.length⟩) (v := slO 1 (markI (upAS 1 es) p.ns.length).length) (Q := [ownB eI6 (markI (upAS 1 es) p.ns.length)]) (markAS 1 es) (.inr ⟨rfl, rfl⟩) (by rw [markAS_len]; omega)
    have hret := fun pv => OkM.retA [blk (arC c p (slO 0 es.length) (slO 1 p.ns.length))] ok okl (v := .int .i64 (upAS 1 es + p.ns.length)) rfl pv
    rw [arM_len, famN_markAS] at hret
    rw [show 1 + [ownB eI6 (markI (upAS 1 es) p.ns.length)].length + famN (es.map elA) = (arM [ownB eI6 p.ns] es).length by rw [hlA]; rfl] at hret
    obtain ⟨m', g1, g2⟩ := s_markParser p (slO 0 p.ns.length) [ownB eI6 p.ns] (upAS 1 es) (.inr ⟨rfl, rfl⟩) (by omega) (by omega) (by omega)
    have hm' : m' = [ownB eI6 (markI (upAS 1 es) p.ns.length)] := by
      rcases g1 with ⟨_, _, h | h⟩ | ⟨_, h⟩
      · cases h
      · cases h
      · exact h
    subst hm'
    have hM2 : (arM [ownB eI6 p.ns] (markAS 1 es)).length = (arM [ownB eI6 p.ns] es).length := by rw [arM_len, arM_len, famN_markAS]
    have h : rcall X_laws_markActionS [slO 0 es.length, .int .i64 1] (arM [ownB eI6 p.ns] es ++ [blk (arC c p (slO 0 es.length) (slO 1 p.ns.length))]) = some (.int .i64 (upAS 1 es), arM [ownB eI6 p.ns] (markAS 1 es) ++ [blk (arC c p (slO 0 es.length) (slO 1 p.ns.length))]) := h
    have c2 := rcall_oneS eI6 (X := X_laws_markParser) (m := arM [ownB eI6 p.ns] (markAS 1 es) ++ [blk (arC c p (slO 0 es.length) (slO 1 p.ns.length))]) (a := 1) (n := p.ns.length) (c := p.ns.length) (xs := [.int .i64 p.k, .int .i64 p.s, .bool p.lead]) (rest := [.int .i64 (upAS 1 es)]) (l := p.ns) rfl rfl rfl rfl g2
    have c2 : rcall X_laws_markParser [parW p (slO 1 p.ns.length), .int .i64 (upAS 1 es)] (arM [ownB eI6 p.ns] (markAS 1 es) ++ [blk (arC c p (slO 0 es.length) (slO 1 p.ns.length))]) = some (.int .i64 (upAS 1 es + p.ns.length), arM [ownB eI6 (markI (upAS 1 es) p.ns.length)] (markAS 1 es) ++ [blk (arC c p (slO 0 es.length) (slO 1 p.ns.length))]) := c2
    have hbx : (arM [ownB eI6 p.ns] (markAS 1 es) ++ [blk (arC c p (slO 0 es.length) (slO 1 p.ns.length))])[(arM [ownB eI6 p.ns] es).length]? = some (blk (arC c p (slO 0 es.length) (slO 1 p.ns.length))) := by rw [← hM2]; simp
    generalize arM [ownB eI6 p.ns] es = M at *
    generalize arM [ownB eI6 p.ns] (markAS 1 es) = M2 at *
    generalize arM [ownB eI6 (markI (upAS 1 es) p.ns.length)] (markAS 1 es) = M3 at *
    simp (maxSteps := 400000) -implicitDefEqProofs [-rcall_eq, X_laws_markActionsResult, h, hbx, c2, hret]
end Go.Ab
