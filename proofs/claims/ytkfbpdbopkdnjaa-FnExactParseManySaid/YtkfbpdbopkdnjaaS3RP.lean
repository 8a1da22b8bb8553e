/- What the functions of the program answer, for all arguments that the theorems name as conditions. -/
import Derived.Test.YtkfbpdbopkdnjaaS3RO
namespace Go.Ab
set_option linter.unusedSimpArgs false
set_option linter.unusedVariables false
set_option maxHeartbeats 4000000

theorem cutS0 {m : Mem} {p2 : ParT} {vp x1 x4 : Value} (h0 : m[0]? = some zB) (h1 : m[1]? = some (blk (outC p2 nil0 vp))) (hv : (p2.ns = [] ∧ (vp = nil0 ∨ vp = roS 0 [])) ∨ ∃ z, vp = slO z p2.ns.length ∧ m[z]? = some (ownB eI6 p2.ns) ∧ 2 ≤ z) (hx1 : scal x1 = true) (hx4 : scal x4 = true) : ∃ vp' Q', SLT p2.ns vp' Q' 2 ∧ ∀ pv J, cutK 0 m pv [x1, ptr 0, ptr 1, x4] J = J [x1, ptr 0, ptr 1, x4] (zB :: blk (outC p2 nil0 vp') :: Q') := by
  rcases hv with ⟨h2, h3⟩ | ⟨z, rfl, h2, h3⟩
  · refine ⟨vp, [], .inl ⟨h2, rfl, h3⟩, fun pv J => ?_⟩
    rcases h3 with rfl | rfl <;> simp [cutK_eq, nmV_scal hx1, nmV_scal hx4, rnV_scal hx1, rnV_scal hx4, h0, h1]
  · have z0 : ¬ 0 = z := by omega
    have z1 : ¬ 1 = z := by omega
    have z0' : ¬ z = 0 := by omega
    have z1' : ¬ z = 1 := by omega
    refine ⟨slO 2 p2.ns.length, [ownB eI6 p2.ns], .inr ⟨rfl, rfl⟩, fun pv J => ?_⟩
    simp [cutK_eq, nmV_scal hx1, nmV_scal hx4, rnV_scal hx1, rnV_scal hx4, h0, h1, h2, z0, z1, z0', z1']
theorem apL_nilsl {m : Mem} {sz bytes n2 o2 c2 : Nat} (hb : bytes ≤ 100000) : apL m sz bytes (.slice none 0 0) (.slice (some ⟨n2, o2, none⟩) 1 c2) = bo (fun cs => some (.slice (some ⟨m.length, 0, none⟩) 1 1, m ++ [⟨cs, sz, true, true⟩])) (rdM m[n2]? o2 (1 * sz)) := by
  show (ob (rd m n2 o2 (1 * sz)) fun cs => appendIn m sz bytes (.slice none 0 0) cs 1) = _
  rw [rd_rdM]
  cases rdM m[n2]? o2 (1 * sz) with
  | none => rfl
  | some cs =>
    show appendIn m sz bytes (.slice none 0 0) cs 1 = _
    unfold appendIn
    rw [if_neg (by omega), if_pos ⟨by omega, by omega⟩]
    rfl
theorem l_spec1 (r : List Int) : ∀ (pr : List Int) (p : ParT) (v : Value) (Q : Mem) (es : List (ActT × Bool)) (q : Nat), r.length < q → (pr ++ r).length < 1100000 → es.length ≤ pr.length → parF p = 0 → SLT p.ns v Q 3 → (∀ x ∈ es, okA x) →
    (runM p r = none → L_spec_ParseMany 0 q 0 [frS eI6 (pr ++ r), ptr 0, ptr 1, .int .i64 pr.length] (zB :: blk (outC p (slO 2 es.length) v) :: famB (3 + Q.length) 5 (es.map elA) :: (Q ++ famM eI6 (es.map elA))) = some (.agg #[.int .i64 3, nil0, .int .i64 0, .int .i64 0, .bool false, nil0], [])) ∧
    ∀ l p', runM p r = some (l, p') → ∃ (es2 : List (ActT × Bool)) (v' : Value) (Q' : Mem), es2.map Prod.fst = l ∧ (∀ x ∈ es2, okA x) ∧ SLT p'.ns v' Q' 1 ∧ L_spec_ParseMany 0 q 0 [frS eI6 (pr ++ r), ptr 0, ptr 1, .int .i64 pr.length] (zB :: blk (outC p (slO 2 es.length) v) :: famB (3 + Q.length) 5 (es.map elA) :: (Q ++ famM eI6 (es.map elA))) = some (.agg #[.int .i64 0, slO 0 (es ++ es2).length, .int .i64 p'.k, .int .i64 p'.s, .bool p'.lead, v'], famB (1 + Q'.length) 5 ((es ++ es2).map elA) :: (Q' ++ famM eI6 ((es ++ es2).map elA))) := by
  induction r with
  | nil =>
    intro pr p v Q es q hq hl he hp hs hg
    obtain ⟨q, rfl⟩ : ∃ n, q = n + 1 := ⟨q - 1, by omega⟩
    refine ⟨fun h => ?_, fun l p' h => ?_⟩
    · rw [runM] at h
      cases h
    rw [runM] at h
    cases h
    rw [List.append_nil]
    have hN := famN_A es
    have ho2 : es.length < 1100000 := by simp at hl; omega
    have hret : ∃ v' Q', SLT p.ns v' Q' 1 ∧ ∀ pv, retK 0 (blk (outC p (slO 2 es.length) v) :: blk (outC p (slO 2 es.length) v) :: famB (3 + Q.length) 5 (es.map elA) :: (Q ++ famM eI6 (es.map elA))) pv (.agg #[.int .i64 0, slO 2 es.length, .int .i64 p.k, .int .i64 p.s, .bool p.lead, v]) = some (.agg #[.int .i64 0, slO 0 es.length, .int .i64 p.k, .int .i64 p.s, .bool p.lead, v'], famB (1 + Q'.length) 5 (es.map elA) :: (Q' ++ famM eI6 (es.map elA))) := by
      have H : Fam eI6 (blk (outC p (slO 2 es.length) v) :: blk (outC p (slO 2 es.length) v) :: famB (3 + Q.length) 5 (es.map elA) :: (Q ++ (famM eI6 (es.map elA) ++ []))) 2 5 (List.range' (3 + Q.length) (famN (es.map elA))) (es.map elA) := by
        have := famG0 (es := es) (hd := blk (outC p (slO 2 es.length) v) :: blk (outC p (slO 2 es.length) v) :: famB (3 + Q.length) 5 (es.map elA) :: Q) (R := []) (j := 2) (by simp) (by
          have e : (blk (outC p (slO 2 es.length) v) :: blk (outC p (slO 2 es.length) v) :: famB (3 + Q.length) 5 (es.map elA) :: Q).length = 3 + Q.length := by simp; omega
          rw [e]
          rfl)
        have e : (blk (outC p (slO 2 es.length) v) :: blk (outC p (slO 2 es.length) v) :: famB (3 + Q.length) 5 (es.map elA) :: Q).length = 3 + Q.length := by simp; omega
        rw [e] at this
        exact this
      rw [List.append_nil] at H
      rcases hs with ⟨h1, rfl, h3⟩ | ⟨rfl, rfl⟩
      · obtain ⟨c1, c2⟩ := H.can1 eI6 (by simp; omega)
        refine ⟨v, [], .inl ⟨h1, rfl, h3⟩, fun pv => ?_⟩
        rcases h3 with rfl | rfl
        · exact ret_of c1 c2 (by simp) (by simp)
        · exact ret_of c1 c2 (by simp) (by simp)
      · obtain ⟨c1, c2⟩ := H.can1y eI6 eI6 (y := 3) (l := p.ns) rfl (by
          have := H.nod
          rw [List.nodup_cons] at this ⊢
          refine ⟨fun h => ?_, List.nodup_cons.2 ⟨fun h => ?_, this.2⟩⟩
          · rw [List.mem_cons, mem_range'] at h
            simp at h
          · rw [mem_range'] at h
            simp at h) (by simp; omega)
        exact ⟨slO 1 p.ns.length, [ownB eI6 p.ns], .inr ⟨rfl, rfl⟩, fun pv => ret_of c1 c2 (by simp) (by simp)⟩
    obtain ⟨v', Q', hs', hret⟩ := hret
    refine ⟨[], v', Q', rfl, fun x hx => by simp at hx, hs', ?_⟩
    rw [List.append_nil]
    generalize hG : some (Value.agg #[.int .i64 0, slO 0 es.length, .int .i64 p.k, .int .i64 p.s, .bool p.lead, v'], famB (1 + Q'.length) 5 (es.map elA) :: (Q' ++ famM eI6 (es.map elA))) = G at hret ⊢
    generalize famM eI6 (es.map elA) = F at *
    simp only [famB, outC] at hret ⊢
    generalize famX (3 + Q.length) (es.map elA) = C at *
    have hv : v = nil0 ∨ v = roS 0 [] ∨ ∃ n, v = slO 3 n := by
      rcases hs with ⟨_, _, h | h⟩ | ⟨h, _⟩
      · exact .inl h
      · exact .inr (.inl h)
      · exact .inr (.inr ⟨_, h⟩)
    rcases hv with rfl | rfl | ⟨n, rfl⟩ <;> simp (maxSteps := 400000) -implicitDefEqProofs [L_spec_ParseMany, hret]
  | cons c r ih =>
    intro pr p v Q es q hq hl he hp hs hg
    obtain ⟨q, rfl⟩ : ∃ n, q = n + 1 := ⟨q - 1, by omega⟩
    have hx := ixa_mid eI6 (sz := 1) rfl .i64 pr c r
    have hw := wrap_next (n := pr.length) (by simp at hl; omega)
    have hch := s_spec_l1Char c
    have e5 : (pr.length : Int) < ((pr ++ c :: r).length : Int) := by simp
    have hN := famN_A es
    have ho2 : es.length < 1100000 := by simp at hl; omega
    have hF : (famM eI6 (es.map elA)).length = famN (es.map elA) := famM_len eI6 _
    have hC : (famX (3 + Q.length) (es.map elA)).length = es.length * 5 := famX_Alen _ es
    by_cases hc : chB c = true
    · rw [hc] at hch
      have hcb := chB_b hc
      have hp' := step_ok hp hcb
      obtain ⟨va0, vp0, m0, hHF, hX⟩ := s_spec_l4Step p c hp hcb
      have hst : runM p (c :: r) = (runM (stepP p c).2 r).map fun x => ((if (stepP p c).1.k = 0 then x.1 else (stepP p c).1 :: x.1), x.2) := by rw [runM, if_pos hc]
      rw [hst]
      generalize hA : (stepP p c).1 = a at *
      generalize hP : (stepP p c).2 = p2 at *
      have ih := fun v Q es he hs hg => ih (pr ++ [c]) p2 v Q es q (by simp at hq; omega) (by simpa using hl) he hp' hs hg
      have e1 : pr ++ [c] ++ r = pr ++ c :: r := by simp
      have e2 : ((pr ++ [c]).length : Int) = pr.length + 1 := by simp
      simp only [e1, e2] at ih
      generalize hFF : famM eI6 (es.map elA) = F at *
      simp only [famB]
      generalize hCC : famX (3 + Q.length) (es.map elA) = C at *
      generalize hNN : famN (es.map elA) = N at *
      have hz : mapO (fz 64 (zB :: blk (outC p (slO 2 es.length) v) :: ⟨C, 5, true, true⟩ :: (Q ++ F))) [parW p v, .int .i64 c] = some [parV p, .int .i64 c] := by
        rcases hs with ⟨h1, h2, h3⟩ | ⟨h1, h2⟩
        · rcases h3 with rfl | rfl <;> simp [mapO, h1, frS_nil]
        · subst h1 h2
          simp [mapO]
      obtain ⟨va, vp, bs, hN4, hcall⟩ := f_tuple hz hX hHF
      have hlen : (zB :: blk (outC p (slO 2 es.length) v) :: ⟨C, 5, true, true⟩ :: (Q ++ F)).length = N + Q.length + 3 := by simp [hF]; omega
      rw [hlen] at hN4
      have hrd := fun o => rdB_all (C := C) (s := 5) (o := o) hC
      have p1 := fun m n o c n2 o2 len c2 => apL_sl (m := m) (sz := 5) (bytes := 56) (n := n) (o := o) (len := len) (c := c) (n2 := n2) (o2 := o2) (len2 := 1) (c2 := c2)
      have ho' : es.length + 1 < 1000000000 := by omega
      have hdl : ∀ b, (zB :: b :: (⟨C, 5, true, false⟩ : Blk) :: Q).length = 3 + Q.length := fun b => by simp; omega
      have hch' : ∀ m, fcall X_spec_l1Char [.int .i64 c] m = some (.bool true, m) := fun m => f_ask (mapO1 (fz_int 63 _ .i64 c)) hch rfl
      have hrm : ∀ w : Value, rdM (some ⟨[.int .i64 a.k, .int .i64 a.c, .int .i64 a.s, .bool a.lead, w], 5, true, true⟩) 0 5 = some [.int .i64 a.k, .int .i64 a.c, .int .i64 a.s, .bool a.lead, w] := fun w => rfl
      have fin : ∀ (new : List (ActT × Bool)) (vp' : Value) (Q' : Mem), new.map Prod.fst = (if a.k = 0 then [] else [a]) → (∀ x ∈ new, okA x) → SLT p2.ns vp' Q' 3 → L_spec_ParseMany 0 (q + 1) 0 [frS eI6 (pr ++ c :: r), ptr 0, ptr 1, .int .i64 pr.length] (zB :: blk (outC p (slO 2 es.length) v) :: ⟨C, 5, true, true⟩ :: (Q ++ F)) = L_spec_ParseMany 0 q 0 [frS eI6 (pr ++ c :: r), ptr 0, ptr 1, .int .i64 (pr.length + 1)] (zB :: blk (outC p2 (slO 2 (es ++ new).length) vp') :: famB (3 + Q'.length) 5 ((es ++ new).map elA) :: (Q' ++ famM eI6 ((es ++ new).map elA))) →
          (Option.map (fun x => ((if a.k = 0 then x.1 else a :: x.1), x.2)) (runM p2 r) = none → L_spec_ParseMany 0 (q + 1) 0 [frS eI6 (pr ++ c :: r), ptr 0, ptr 1, .int .i64 pr.length] (zB :: blk (outC p (slO 2 es.length) v) :: ⟨C, 5, true, true⟩ :: (Q ++ F)) = some (.agg #[.int .i64 3, nil0, .int .i64 0, .int .i64 0, .bool false, nil0], [])) ∧
          ∀ l p', Option.map (fun x => ((if a.k = 0 then x.1 else a :: x.1), x.2)) (runM p2 r) = some (l, p') → ∃ (es2 : List (ActT × Bool)) (v' : Value) (Q' : Mem), es2.map Prod.fst = l ∧ (∀ x ∈ es2, okA x) ∧ SLT p'.ns v' Q' 1 ∧ L_spec_ParseMany 0 (q + 1) 0 [frS eI6 (pr ++ c :: r), ptr 0, ptr 1, .int .i64 pr.length] (zB :: blk (outC p (slO 2 es.length) v) :: ⟨C, 5, true, true⟩ :: (Q ++ F)) = some (.agg #[.int .i64 0, slO 0 (es ++ es2).length, .int .i64 p'.k, .int .i64 p'.s, .bool p'.lead, v'], famB (1 + Q'.length) 5 ((es ++ es2).map elA) :: (Q' ++ famM eI6 ((es ++ es2).map elA))) := by
        intro new vp' Q' hnew hok hs' hL
        have hnl : new.length ≤ 1 := by
          have := congrArg List.length hnew
          rw [List.length_map] at this
          split at this <;> simp only [List.length_nil, List.length_singleton] at this <;> omega
        obtain ⟨i1, i2⟩ := ih vp' Q' (es ++ new) (by rw [List.length_append, List.length_append, List.length_singleton]; omega) hs' (fun x hx => by
          rcases List.mem_append.1 hx with h | h
          · exact hg x h
          · exact hok x h)
        rw [hL]
        refine ⟨fun h => i1 (by simpa using h), fun l p' h => ?_⟩
        rw [Option.map_eq_some_iff] at h
        obtain ⟨⟨l0, p0⟩, h1, h2⟩ := h
        simp only [Prod.mk.injEq] at h2
        obtain ⟨h2, rfl⟩ := h2
        obtain ⟨es2, v', Q2, g1, g2, g3, g4⟩ := i2 l0 p0 h1
        refine ⟨new ++ es2, v', Q2, ?_, fun x hx => ?_, g3, ?_⟩
        · rw [List.map_append, hnew, g1, ← h2]
          split <;> rfl
        · rcases List.mem_append.1 hx with h | h
          · exact hok x h
          · exact g2 x h
        · rw [g4, List.append_assoc]
      by_cases hk : a.k = 0
      · rcases hN4 with ⟨h1, h2, rfl, rfl, rfl⟩ | ⟨h1, h2, rfl, rfl, rfl⟩ | ⟨h1, rfl, rfl, rfl⟩ | ⟨h1, rfl, rfl, rfl⟩
        · have hdl2 : (zB :: blk (outC p2 (slO 2 (es.length)) nil0) :: ⟨C, 5, true, true⟩ :: Q).length = 3 + Q.length := by simp; omega
          have H : Fam eI6 (zB :: blk (outC p2 (slO 2 (es.length)) nil0) :: ⟨C, 5, true, true⟩ :: (Q ++ (F ++ [⟨[.int .i64 a.k, .int .i64 a.c, .int .i64 a.s, .bool a.lead, nil0], 0, true, true⟩, blk [.int .i64 p2.k, .int .i64 p2.s, .bool p2.lead, nil0]]))) 2 5 (List.range' (3 + Q.length) N) (es.map elA) := by
            have := famG0 (es := es) (hd := zB :: blk (outC p2 (slO 2 (es.length)) nil0) :: ⟨C, 5, true, true⟩ :: Q) (R := [⟨[.int .i64 a.k, .int .i64 a.c, .int .i64 a.s, .bool a.lead, nil0], 0, true, true⟩, blk [.int .i64 p2.k, .int .i64 p2.s, .bool p2.lead, nil0]]) (j := 2) (by simp) (by rw [hdl2, hCC]; rfl)
            rw [hdl2, hNN, hFF] at this
            exact this
          obtain ⟨vp', Q', hs', hcut⟩ := cutS (n := es.length) (p2 := p2) (vp := nil0) (x1 := frS eI6 (pr ++ c :: r)) (x4 := .int .i64 (pr.length + 1)) rfl rfl H (by omega) (fun n hn => by simp only [List.mem_append, mem_range', List.mem_singleton, List.not_mem_nil, or_false] at hn; omega) (by simp; omega) (.inl ⟨h2, .inl rfl⟩) rfl rfl
          refine fin [] vp' Q' (by simp [hk]) (fun x hx => by simp at hx) hs' ?_
          generalize hG : L_spec_ParseMany 0 q 0 [frS eI6 (pr ++ c :: r), ptr 0, ptr 1, .int .i64 (pr.length + 1)] _ = G
          have hcut := fun pv => (hcut pv (L_spec_ParseMany 0 q 0)).trans (b := L_spec_ParseMany 0 q 0 _ _) (c := G) (by rw [← hG]; simp)
          simp (maxSteps := 400000) -implicitDefEqProofs [-fcall_eq, L_spec_ParseMany, hx, hch', e5, hcall, eq_true hk, p1, hrm, hw, hcut, ho', hC, hrd, hF]
        · have hdl2 : (zB :: blk (outC p2 (slO 2 (es.length)) (roS 0 [])) :: ⟨C, 5, true, true⟩ :: Q).length = 3 + Q.length := by simp; omega
          have H : Fam eI6 (zB :: blk (outC p2 (slO 2 (es.length)) (roS 0 [])) :: ⟨C, 5, true, true⟩ :: (Q ++ (F ++ [⟨[.int .i64 a.k, .int .i64 a.c, .int .i64 a.s, .bool a.lead, nil0], 0, true, true⟩, blk [.int .i64 p2.k, .int .i64 p2.s, .bool p2.lead, (roS 0 [])]]))) 2 5 (List.range' (3 + Q.length) N) (es.map elA) := by
            have := famG0 (es := es) (hd := zB :: blk (outC p2 (slO 2 (es.length)) (roS 0 [])) :: ⟨C, 5, true, true⟩ :: Q) (R := [⟨[.int .i64 a.k, .int .i64 a.c, .int .i64 a.s, .bool a.lead, nil0], 0, true, true⟩, blk [.int .i64 p2.k, .int .i64 p2.s, .bool p2.lead, (roS 0 [])]]) (j := 2) (by simp) (by rw [hdl2, hCC]; rfl)
            rw [hdl2, hNN, hFF] at this
            exact this
          obtain ⟨vp', Q', hs', hcut⟩ := cutS (n := es.length) (p2 := p2) (vp := (roS 0 [])) (x1 := frS eI6 (pr ++ c :: r)) (x4 := .int .i64 (pr.length + 1)) rfl rfl H (by omega) (fun n hn => by simp only [List.mem_append, mem_range', List.mem_singleton, List.not_mem_nil, or_false] at hn; omega) (by simp; omega) (.inl ⟨h2, .inr rfl⟩) rfl rfl
          refine fin [] vp' Q' (by simp [hk]) (fun x hx => by simp at hx) hs' ?_
          generalize hG : L_spec_ParseMany 0 q 0 [frS eI6 (pr ++ c :: r), ptr 0, ptr 1, .int .i64 (pr.length + 1)] _ = G
          have hcut := fun pv => (hcut pv (L_spec_ParseMany 0 q 0)).trans (b := L_spec_ParseMany 0 q 0 _ _) (c := G) (by rw [← hG]; simp)
          simp (maxSteps := 400000) -implicitDefEqProofs [-fcall_eq, L_spec_ParseMany, hx, hch', e5, hcall, eq_true hk, p1, hrm, hw, hcut, ho', hC, hrd, hF]
        · have hdl2 : (zB :: blk (outC p2 (slO 2 (es.length)) (slO (N + Q.length + 3) p2.ns.length)) :: ⟨C, 5, true, true⟩ :: Q).length = 3 + Q.length := by simp; omega
          have H : Fam eI6 (zB :: blk (outC p2 (slO 2 (es.length)) (slO (N + Q.length + 3) p2.ns.length)) :: ⟨C, 5, true, true⟩ :: (Q ++ (F ++ [ownB eI6 p2.ns, ⟨[.int .i64 a.k, .int .i64 a.c, .int .i64 a.s, .bool a.lead, nil0], 0, true, true⟩, blk [.int .i64 p2.k, .int .i64 p2.s, .bool p2.lead, (slO (N + Q.length + 3) p2.ns.length)]]))) 2 5 (List.range' (3 + Q.length) N) (es.map elA) := by
            have := famG0 (es := es) (hd := zB :: blk (outC p2 (slO 2 (es.length)) (slO (N + Q.length + 3) p2.ns.length)) :: ⟨C, 5, true, true⟩ :: Q) (R := [ownB eI6 p2.ns, ⟨[.int .i64 a.k, .int .i64 a.c, .int .i64 a.s, .bool a.lead, nil0], 0, true, true⟩, blk [.int .i64 p2.k, .int .i64 p2.s, .bool p2.lead, (slO (N + Q.length + 3) p2.ns.length)]]) (j := 2) (by simp) (by rw [hdl2, hCC]; rfl)
            rw [hdl2, hNN, hFF] at this
            exact this
          obtain ⟨vp', Q', hs', hcut⟩ := cutS (n := es.length) (p2 := p2) (vp := (slO (N + Q.length + 3) p2.ns.length)) (x1 := frS eI6 (pr ++ c :: r)) (x4 := .int .i64 (pr.length + 1)) rfl rfl H (by omega) (fun n hn => by simp only [List.mem_append, mem_range', List.mem_singleton, List.not_mem_nil, or_false] at hn; omega) (by simp; omega) (.inr ⟨_, rfl, at_row (zB :: blk (outC p2 (slO 2 (es.length)) (slO (N + Q.length + 3) p2.ns.length)) :: ⟨C, 5, true, true⟩ :: Q) F _ (j := 0) (by simp; omega) rfl, by omega, by omega, by simp only [List.mem_append, mem_range', List.mem_singleton, List.not_mem_nil, or_false]; omega⟩) rfl rfl
          refine fin [] vp' Q' (by simp [hk]) (fun x hx => by simp at hx) hs' ?_
          generalize hG : L_spec_ParseMany 0 q 0 [frS eI6 (pr ++ c :: r), ptr 0, ptr 1, .int .i64 (pr.length + 1)] _ = G
          have hcut := fun pv => (hcut pv (L_spec_ParseMany 0 q 0)).trans (b := L_spec_ParseMany 0 q 0 _ _) (c := G) (by rw [← hG]; simp)
          simp (maxSteps := 400000) -implicitDefEqProofs [-fcall_eq, L_spec_ParseMany, hx, hch', e5, hcall, eq_true hk, p1, hrm, hw, hcut, ho', hC, hrd, hF]
        · have hdl2 : (zB :: blk (outC p2 (slO 2 (es.length)) nil0) :: ⟨C, 5, true, true⟩ :: Q).length = 3 + Q.length := by simp; omega
          have H : Fam eI6 (zB :: blk (outC p2 (slO 2 (es.length)) nil0) :: ⟨C, 5, true, true⟩ :: (Q ++ (F ++ [ownB eI6 a.ns, ⟨[.int .i64 a.k, .int .i64 a.c, .int .i64 a.s, .bool a.lead, (slO (N + Q.length + 3) a.ns.length)], 0, true, true⟩, blk [.int .i64 p2.k, .int .i64 p2.s, .bool p2.lead, nil0]]))) 2 5 (List.range' (3 + Q.length) N) (es.map elA) := by
            have := famG0 (es := es) (hd := zB :: blk (outC p2 (slO 2 (es.length)) nil0) :: ⟨C, 5, true, true⟩ :: Q) (R := [ownB eI6 a.ns, ⟨[.int .i64 a.k, .int .i64 a.c, .int .i64 a.s, .bool a.lead, (slO (N + Q.length + 3) a.ns.length)], 0, true, true⟩, blk [.int .i64 p2.k, .int .i64 p2.s, .bool p2.lead, nil0]]) (j := 2) (by simp) (by rw [hdl2, hCC]; rfl)
            rw [hdl2, hNN, hFF] at this
            exact this
          obtain ⟨vp', Q', hs', hcut⟩ := cutS (n := es.length) (p2 := p2) (vp := nil0) (x1 := frS eI6 (pr ++ c :: r)) (x4 := .int .i64 (pr.length + 1)) rfl rfl H (by omega) (fun n hn => by simp only [List.mem_append, mem_range', List.mem_singleton, List.not_mem_nil, or_false] at hn; omega) (by simp; omega) (.inl ⟨h1, .inl rfl⟩) rfl rfl
          refine fin [] vp' Q' (by simp [hk]) (fun x hx => by simp at hx) hs' ?_
          generalize hG : L_spec_ParseMany 0 q 0 [frS eI6 (pr ++ c :: r), ptr 0, ptr 1, .int .i64 (pr.length + 1)] _ = G
          have hcut := fun pv => (hcut pv (L_spec_ParseMany 0 q 0)).trans (b := L_spec_ParseMany 0 q 0 _ _) (c := G) (by rw [← hG]; simp)
          simp (maxSteps := 400000) -implicitDefEqProofs [-fcall_eq, L_spec_ParseMany, hx, hch', e5, hcall, eq_true hk, p1, hrm, hw, hcut, ho', hC, hrd, hF]
      · rcases hN4 with ⟨h1, h2, rfl, rfl, rfl⟩ | ⟨h1, h2, rfl, rfl, rfl⟩ | ⟨h1, rfl, rfl, rfl⟩ | ⟨h1, rfl, rfl, rfl⟩
        · have H : Fam eI6 (zB :: blk (outC p2 (slO (Q.length + (N + 3) + 1 + 1 + 1) (es.length + 1)) nil0) :: ⟨C, 5, true, false⟩ :: (Q ++ (F ++ [⟨[.int .i64 a.k, .int .i64 a.c, .int .i64 a.s, .bool a.lead, nil0], 0, true, true⟩, blk [.int .i64 p2.k, .int .i64 p2.s, .bool p2.lead, nil0], ⟨[.int .i64 a.k, .int .i64 a.c, .int .i64 a.s, .bool a.lead, nil0], 5, true, true⟩, ⟨C ++ [.int .i64 a.k, .int .i64 a.c, .int .i64 a.s, .bool a.lead, nil0], 5, true, true⟩]))) (Q.length + (N + 3) + 1 + 1 + 1) 5 (List.range' (3 + Q.length) N ++ []) ((es ++ [(a, false)]).map elA) := by
            have := famG1 (es := es) (hd := zB :: blk (outC p2 (slO (Q.length + (N + 3) + 1 + 1 + 1) (es.length + 1)) nil0) :: ⟨C, 5, true, false⟩ :: Q) (R := [⟨[.int .i64 a.k, .int .i64 a.c, .int .i64 a.s, .bool a.lead, nil0], 0, true, true⟩, blk [.int .i64 p2.k, .int .i64 p2.s, .bool p2.lead, nil0], ⟨[.int .i64 a.k, .int .i64 a.c, .int .i64 a.s, .bool a.lead, nil0], 5, true, true⟩, ⟨C ++ [.int .i64 a.k, .int .i64 a.c, .int .i64 a.s, .bool a.lead, nil0], 5, true, true⟩]) (a := a) (jj := 3) (j := (Q.length + (N + 3) + 1 + 1 + 1)) (by rw [hdl, hNN]; omega) (by rw [hdl, hCC]; rfl)
            rw [hdl, hNN, hFF] at this
            exact this
          obtain ⟨vp', Q', hs', hcut⟩ := cutS (n := es.length + 1) (p2 := p2) (vp := nil0) (x1 := frS eI6 (pr ++ c :: r)) (x4 := .int .i64 (pr.length + 1)) rfl rfl H (by omega) (fun n hn => by simp only [List.mem_append, mem_range', List.mem_singleton, List.not_mem_nil, or_false] at hn; omega) (by simp; omega) (.inl ⟨h2, .inl rfl⟩) rfl rfl
          refine fin [(a, false)] vp' Q' (by simp [hk]) (fun x hx => by simp at hx; subst hx; exact fun _ => h1) hs' ?_
          generalize hG : L_spec_ParseMany 0 q 0 [frS eI6 (pr ++ c :: r), ptr 0, ptr 1, .int .i64 (pr.length + 1)] _ = G
          have hcut := fun pv => (hcut pv (L_spec_ParseMany 0 q 0)).trans (b := L_spec_ParseMany 0 q 0 _ _) (c := G) (by rw [← hG]; simp)
          simp (maxSteps := 400000) -implicitDefEqProofs [-fcall_eq, L_spec_ParseMany, hx, hch', e5, hcall, hk, p1, hrm, hw, hcut, ho', hC, hrd, hF]
        · have H : Fam eI6 (zB :: blk (outC p2 (slO (Q.length + (N + 3) + 1 + 1 + 1) (es.length + 1)) (roS 0 [])) :: ⟨C, 5, true, false⟩ :: (Q ++ (F ++ [⟨[.int .i64 a.k, .int .i64 a.c, .int .i64 a.s, .bool a.lead, nil0], 0, true, true⟩, blk [.int .i64 p2.k, .int .i64 p2.s, .bool p2.lead, (roS 0 [])], ⟨[.int .i64 a.k, .int .i64 a.c, .int .i64 a.s, .bool a.lead, nil0], 5, true, true⟩, ⟨C ++ [.int .i64 a.k, .int .i64 a.c, .int .i64 a.s, .bool a.lead, nil0], 5, true, true⟩]))) (Q.length + (N + 3) + 1 + 1 + 1) 5 (List.range' (3 + Q.length) N ++ []) ((es ++ [(a, false)]).map elA) := by
            have := famG1 (es := es) (hd := zB :: blk (outC p2 (slO (Q.length + (N + 3) + 1 + 1 + 1) (es.length + 1)) (roS 0 [])) :: ⟨C, 5, true, false⟩ :: Q) (R := [⟨[.int .i64 a.k, .int .i64 a.c, .int .i64 a.s, .bool a.lead, nil0], 0, true, true⟩, blk [.int .i64 p2.k, .int .i64 p2.s, .bool p2.lead, (roS 0 [])], ⟨[.int .i64 a.k, .int .i64 a.c, .int .i64 a.s, .bool a.lead, nil0], 5, true, true⟩, ⟨C ++ [.int .i64 a.k, .int .i64 a.c, .int .i64 a.s, .bool a.lead, nil0], 5, true, true⟩]) (a := a) (jj := 3) (j := (Q.length + (N + 3) + 1 + 1 + 1)) (by rw [hdl, hNN]; omega) (by rw [hdl, hCC]; rfl)
            rw [hdl, hNN, hFF] at this
            exact this
          obtain ⟨vp', Q', hs', hcut⟩ := cutS (n := es.length + 1) (p2 := p2) (vp := (roS 0 [])) (x1 := frS eI6 (pr ++ c :: r)) (x4 := .int .i64 (pr.length + 1)) rfl rfl H (by omega) (fun n hn => by simp only [List.mem_append, mem_range', List.mem_singleton, List.not_mem_nil, or_false] at hn; omega) (by simp; omega) (.inl ⟨h2, .inr rfl⟩) rfl rfl
          refine fin [(a, false)] vp' Q' (by simp [hk]) (fun x hx => by simp at hx; subst hx; exact fun _ => h1) hs' ?_
          generalize hG : L_spec_ParseMany 0 q 0 [frS eI6 (pr ++ c :: r), ptr 0, ptr 1, .int .i64 (pr.length + 1)] _ = G
          have hcut := fun pv => (hcut pv (L_spec_ParseMany 0 q 0)).trans (b := L_spec_ParseMany 0 q 0 _ _) (c := G) (by rw [← hG]; simp)
          simp (maxSteps := 400000) -implicitDefEqProofs [-fcall_eq, L_spec_ParseMany, hx, hch', e5, hcall, hk, p1, hrm, hw, hcut, ho', hC, hrd, hF]
        · have H : Fam eI6 (zB :: blk (outC p2 (slO (Q.length + (N + 4) + 1 + 1 + 1) (es.length + 1)) (slO (N + Q.length + 3) p2.ns.length)) :: ⟨C, 5, true, false⟩ :: (Q ++ (F ++ [ownB eI6 p2.ns, ⟨[.int .i64 a.k, .int .i64 a.c, .int .i64 a.s, .bool a.lead, nil0], 0, true, true⟩, blk [.int .i64 p2.k, .int .i64 p2.s, .bool p2.lead, (slO (N + Q.length + 3) p2.ns.length)], ⟨[.int .i64 a.k, .int .i64 a.c, .int .i64 a.s, .bool a.lead, nil0], 5, true, true⟩, ⟨C ++ [.int .i64 a.k, .int .i64 a.c, .int .i64 a.s, .bool a.lead, nil0], 5, true, true⟩]))) (Q.length + (N + 4) + 1 + 1 + 1) 5 (List.range' (3 + Q.length) N ++ []) ((es ++ [(a, false)]).map elA) := by
            have := famG1 (es := es) (hd := zB :: blk (outC p2 (slO (Q.length + (N + 4) + 1 + 1 + 1) (es.length + 1)) (slO (N + Q.length + 3) p2.ns.length)) :: ⟨C, 5, true, false⟩ :: Q) (R := [ownB eI6 p2.ns, ⟨[.int .i64 a.k, .int .i64 a.c, .int .i64 a.s, .bool a.lead, nil0], 0, true, true⟩, blk [.int .i64 p2.k, .int .i64 p2.s, .bool p2.lead, (slO (N + Q.length + 3) p2.ns.length)], ⟨[.int .i64 a.k, .int .i64 a.c, .int .i64 a.s, .bool a.lead, nil0], 5, true, true⟩, ⟨C ++ [.int .i64 a.k, .int .i64 a.c, .int .i64 a.s, .bool a.lead, nil0], 5, true, true⟩]) (a := a) (jj := 4) (j := (Q.length + (N + 4) + 1 + 1 + 1)) (by rw [hdl, hNN]; omega) (by rw [hdl, hCC]; rfl)
            rw [hdl, hNN, hFF] at this
            exact this
          obtain ⟨vp', Q', hs', hcut⟩ := cutS (n := es.length + 1) (p2 := p2) (vp := (slO (N + Q.length + 3) p2.ns.length)) (x1 := frS eI6 (pr ++ c :: r)) (x4 := .int .i64 (pr.length + 1)) rfl rfl H (by omega) (fun n hn => by simp only [List.mem_append, mem_range', List.mem_singleton, List.not_mem_nil, or_false] at hn; omega) (by simp; omega) (.inr ⟨_, rfl, at_row (zB :: blk (outC p2 (slO (Q.length + (N + 4) + 1 + 1 + 1) (es.length + 1)) (slO (N + Q.length + 3) p2.ns.length)) :: ⟨C, 5, true, false⟩ :: Q) F _ (j := 0) (by simp; omega) rfl, by omega, by omega, by simp only [List.mem_append, mem_range', List.mem_singleton, List.not_mem_nil, or_false]; omega⟩) rfl rfl
          refine fin [(a, false)] vp' Q' (by simp [hk]) (fun x hx => by simp at hx; subst hx; exact fun _ => h1) hs' ?_
          generalize hG : L_spec_ParseMany 0 q 0 [frS eI6 (pr ++ c :: r), ptr 0, ptr 1, .int .i64 (pr.length + 1)] _ = G
          have hcut := fun pv => (hcut pv (L_spec_ParseMany 0 q 0)).trans (b := L_spec_ParseMany 0 q 0 _ _) (c := G) (by rw [← hG]; simp)
          simp (maxSteps := 400000) -implicitDefEqProofs [-fcall_eq, L_spec_ParseMany, hx, hch', e5, hcall, hk, p1, hrm, hw, hcut, ho', hC, hrd, hF]
        · have H : Fam eI6 (zB :: blk (outC p2 (slO (Q.length + (N + 4) + 1 + 1 + 1) (es.length + 1)) nil0) :: ⟨C, 5, true, false⟩ :: (Q ++ (F ++ [ownB eI6 a.ns, ⟨[.int .i64 a.k, .int .i64 a.c, .int .i64 a.s, .bool a.lead, (slO (N + Q.length + 3) a.ns.length)], 0, true, true⟩, blk [.int .i64 p2.k, .int .i64 p2.s, .bool p2.lead, nil0], ⟨[.int .i64 a.k, .int .i64 a.c, .int .i64 a.s, .bool a.lead, (slO (N + Q.length + 3) a.ns.length)], 5, true, true⟩, ⟨C ++ [.int .i64 a.k, .int .i64 a.c, .int .i64 a.s, .bool a.lead, (slO (N + Q.length + 3) a.ns.length)], 5, true, true⟩]))) (Q.length + (N + 4) + 1 + 1 + 1) 5 (List.range' (3 + Q.length) N ++ [(N + Q.length + 3)]) ((es ++ [(a, true)]).map elA) := by
            have := famG2 (es := es) (hd := zB :: blk (outC p2 (slO (Q.length + (N + 4) + 1 + 1 + 1) (es.length + 1)) nil0) :: ⟨C, 5, true, false⟩ :: Q) (R := [ownB eI6 a.ns, ⟨[.int .i64 a.k, .int .i64 a.c, .int .i64 a.s, .bool a.lead, (slO (N + Q.length + 3) a.ns.length)], 0, true, true⟩, blk [.int .i64 p2.k, .int .i64 p2.s, .bool p2.lead, nil0], ⟨[.int .i64 a.k, .int .i64 a.c, .int .i64 a.s, .bool a.lead, (slO (N + Q.length + 3) a.ns.length)], 5, true, true⟩, ⟨C ++ [.int .i64 a.k, .int .i64 a.c, .int .i64 a.s, .bool a.lead, (slO (N + Q.length + 3) a.ns.length)], 5, true, true⟩]) (a := a) (jj := 4) (j := (Q.length + (N + 4) + 1 + 1 + 1)) (yy := 0) (y := (N + Q.length + 3)) (by rw [hdl, hNN]; omega) (by rw [hdl, hNN]; omega) (by omega) rfl (by rw [hdl, hCC]; rfl)
            rw [hdl, hNN, hFF] at this
            exact this
          obtain ⟨vp', Q', hs', hcut⟩ := cutS (n := es.length + 1) (p2 := p2) (vp := nil0) (x1 := frS eI6 (pr ++ c :: r)) (x4 := .int .i64 (pr.length + 1)) rfl rfl H (by omega) (fun n hn => by simp only [List.mem_append, mem_range', List.mem_singleton, List.not_mem_nil, or_false] at hn; omega) (by simp; omega) (.inl ⟨h1, .inl rfl⟩) rfl rfl
          refine fin [(a, true)] vp' Q' (by simp [hk]) (fun x hx => by simp at hx; subst hx; exact fun h => by cases h) hs' ?_
          generalize hG : L_spec_ParseMany 0 q 0 [frS eI6 (pr ++ c :: r), ptr 0, ptr 1, .int .i64 (pr.length + 1)] _ = G
          have hcut := fun pv => (hcut pv (L_spec_ParseMany 0 q 0)).trans (b := L_spec_ParseMany 0 q 0 _ _) (c := G) (by rw [← hG]; simp)
          simp (maxSteps := 400000) -implicitDefEqProofs [-fcall_eq, L_spec_ParseMany, hx, hch', e5, hcall, hk, p1, hrm, hw, hcut, ho', hC, hrd, hF]
    · have hc : chB c = false := by simpa using hc
      have e0 : runM p (c :: r) = none := by rw [runM, if_neg (by simp [hc])]
      rw [hc] at hch
      refine ⟨fun _ => ?_, fun l p' h => by rw [e0] at h; cases h⟩
      generalize famM eI6 (es.map elA) = F at *
      simp only [famB]
      generalize famX (3 + Q.length) (es.map elA) = C at *
      simp (maxSteps := 400000) -implicitDefEqProofs [L_spec_ParseMany, retK_eq, hx, hch, e5]
theorem l_spec0 (r : List Int) : ∀ (pr : List Int) (p : ParT) (v : Value) (Q : Mem) (q : Nat), r.length < q → (pr ++ r).length < 1100000 → parF p = 0 → SLT p.ns v Q 2 →
    (runM p r = none → L_spec_ParseMany 0 q 0 [frS eI6 (pr ++ r), ptr 0, ptr 1, .int .i64 pr.length] (zB :: blk (outC p nil0 v) :: Q) = some (.agg #[.int .i64 3, nil0, .int .i64 0, .int .i64 0, .bool false, nil0], [])) ∧
    ∀ l p', runM p r = some (l, p') → (l = [] ∧ ∃ (v' : Value) (Q' : Mem), SLT p'.ns v' Q' 0 ∧ L_spec_ParseMany 0 q 0 [frS eI6 (pr ++ r), ptr 0, ptr 1, .int .i64 pr.length] (zB :: blk (outC p nil0 v) :: Q) = some (.agg (outC p' nil0 v').toArray, Q')) ∨ ∃ (es2 : List (ActT × Bool)) (v' : Value) (Q' : Mem), es2.map Prod.fst = l ∧ (∀ x ∈ es2, okA x) ∧ SLT p'.ns v' Q' 1 ∧ L_spec_ParseMany 0 q 0 [frS eI6 (pr ++ r), ptr 0, ptr 1, .int .i64 pr.length] (zB :: blk (outC p nil0 v) :: Q) = some (.agg #[.int .i64 0, slO 0 (es2).length, .int .i64 p'.k, .int .i64 p'.s, .bool p'.lead, v'], famB (1 + Q'.length) 5 ((es2).map elA) :: (Q' ++ famM eI6 ((es2).map elA))) := by
  induction r with
  | nil =>
    intro pr p v Q q hq hl hp hs
    obtain ⟨q, rfl⟩ : ∃ n, q = n + 1 := ⟨q - 1, by omega⟩
    refine ⟨fun h => ?_, fun l p' h => ?_⟩
    · rw [runM] at h
      cases h
    rw [runM] at h
    cases h
    rw [List.append_nil]
    refine .inl ⟨rfl, ?_⟩
    rcases hs with ⟨h1, rfl, h3⟩ | ⟨rfl, rfl⟩
    · refine ⟨v, [], .inl ⟨h1, rfl, h3⟩, ?_⟩
      rcases h3 with rfl | rfl <;> simp (maxSteps := 400000) -implicitDefEqProofs [L_spec_ParseMany, retK_eq]
    · refine ⟨slO 0 p.ns.length, [ownB eI6 p.ns], .inr ⟨rfl, rfl⟩, ?_⟩
      simp (maxSteps := 400000) -implicitDefEqProofs [L_spec_ParseMany, retK_eq]
  | cons c r ih =>
    intro pr p v Q q hq hl hp hs
    obtain ⟨q, rfl⟩ : ∃ n, q = n + 1 := ⟨q - 1, by omega⟩
    have hx := ixa_mid eI6 (sz := 1) rfl .i64 pr c r
    have hw := wrap_next (n := pr.length) (by simp at hl; omega)
    have hch := s_spec_l1Char c
    have e5 : (pr.length : Int) < ((pr ++ c :: r).length : Int) := by simp
    by_cases hc : chB c = true
    · rw [hc] at hch
      have hcb := chB_b hc
      have hp' := step_ok hp hcb
      obtain ⟨va0, vp0, m0, hHF, hX⟩ := s_spec_l4Step p c hp hcb
      have hst : runM p (c :: r) = (runM (stepP p c).2 r).map fun x => ((if (stepP p c).1.k = 0 then x.1 else (stepP p c).1 :: x.1), x.2) := by rw [runM, if_pos hc]
      rw [hst]
      generalize hA : (stepP p c).1 = a at *
      generalize hP : (stepP p c).2 = p2 at *
      have ih1 := fun v Q es he hs hg => l_spec1 r (pr ++ [c]) p2 v Q es q (by simp at hq; omega) (by simpa using hl) he hp' hs hg
      have ih := fun v Q hs => ih (pr ++ [c]) p2 v Q q (by simp at hq; omega) (by simpa using hl) hp' hs
      have e1 : pr ++ [c] ++ r = pr ++ c :: r := by simp
      have e2 : ((pr ++ [c]).length : Int) = pr.length + 1 := by simp
      simp only [e1, e2] at ih ih1
      have hz : mapO (fz 64 (zB :: blk (outC p nil0 v) :: Q)) [parW p v, .int .i64 c] = some [parV p, .int .i64 c] := by
        rcases hs with ⟨h1, h2, h3⟩ | ⟨h1, h2⟩
        · rcases h3 with rfl | rfl <;> simp [mapO, h1, frS_nil]
        · subst h1 h2
          simp [mapO]
      obtain ⟨va, vp, bs, hN4, hcall⟩ := f_tuple hz hX hHF
      have hlen : (zB :: blk (outC p nil0 v) :: Q).length = Q.length + 2 := by simp
      rw [hlen] at hN4
      have p1 := fun m n2 o2 c2 => apL_nilsl (m := m) (sz := 5) (bytes := 56) (n2 := n2) (o2 := o2) (c2 := c2)
      have hch' : ∀ m, fcall X_spec_l1Char [.int .i64 c] m = some (.bool true, m) := fun m => f_ask (mapO1 (fz_int 63 _ .i64 c)) hch rfl
      have hrm : ∀ w : Value, rdM (some ⟨[.int .i64 a.k, .int .i64 a.c, .int .i64 a.s, .bool a.lead, w], 5, true, true⟩) 0 5 = some [.int .i64 a.k, .int .i64 a.c, .int .i64 a.s, .bool a.lead, w] := fun w => rfl
      have fin : ∀ (new : List (ActT × Bool)) (vp' : Value) (Q' : Mem), new.map Prod.fst = (if a.k = 0 then [] else [a]) → (∀ x ∈ new, okA x) → SLT p2.ns vp' Q' 3 → L_spec_ParseMany 0 (q + 1) 0 [frS eI6 (pr ++ c :: r), ptr 0, ptr 1, .int .i64 pr.length] (zB :: blk (outC p nil0 v) :: Q) = L_spec_ParseMany 0 q 0 [frS eI6 (pr ++ c :: r), ptr 0, ptr 1, .int .i64 (pr.length + 1)] (zB :: blk (outC p2 (slO 2 ([] ++ new).length) vp') :: famB (3 + Q'.length) 5 (([] ++ new).map elA) :: (Q' ++ famM eI6 (([] ++ new).map elA))) →
          (Option.map (fun x => ((if a.k = 0 then x.1 else a :: x.1), x.2)) (runM p2 r) = none → L_spec_ParseMany 0 (q + 1) 0 [frS eI6 (pr ++ c :: r), ptr 0, ptr 1, .int .i64 pr.length] (zB :: blk (outC p nil0 v) :: Q) = some (.agg #[.int .i64 3, nil0, .int .i64 0, .int .i64 0, .bool false, nil0], [])) ∧
          ∀ l p', Option.map (fun x => ((if a.k = 0 then x.1 else a :: x.1), x.2)) (runM p2 r) = some (l, p') → (l = [] ∧ ∃ (v' : Value) (Q' : Mem), SLT p'.ns v' Q' 0 ∧ L_spec_ParseMany 0 (q + 1) 0 [frS eI6 (pr ++ c :: r), ptr 0, ptr 1, .int .i64 pr.length] (zB :: blk (outC p nil0 v) :: Q) = some (.agg (outC p' nil0 v').toArray, Q')) ∨ ∃ (es2 : List (ActT × Bool)) (v' : Value) (Q' : Mem), es2.map Prod.fst = l ∧ (∀ x ∈ es2, okA x) ∧ SLT p'.ns v' Q' 1 ∧ L_spec_ParseMany 0 (q + 1) 0 [frS eI6 (pr ++ c :: r), ptr 0, ptr 1, .int .i64 pr.length] (zB :: blk (outC p nil0 v) :: Q) = some (.agg #[.int .i64 0, slO 0 (es2).length, .int .i64 p'.k, .int .i64 p'.s, .bool p'.lead, v'], famB (1 + Q'.length) 5 ((es2).map elA) :: (Q' ++ famM eI6 ((es2).map elA))) := by
        intro new vp' Q' hnew hok hs' hL
        have hnl : new.length ≤ 1 := by
          have := congrArg List.length hnew
          rw [List.length_map] at this
          split at this <;> simp only [List.length_nil, List.length_singleton] at this <;> omega
        obtain ⟨i1, i2⟩ := ih1 vp' Q' ([] ++ new) (by rw [List.length_append, List.length_append, List.length_singleton]; simp; omega) hs' (fun x hx => by
          rcases List.mem_append.1 hx with h | h
          · simp at h
          · exact hok x h)
        rw [hL]
        refine ⟨fun h => i1 (by simpa using h), fun l p' h => ?_⟩
        rw [Option.map_eq_some_iff] at h
        obtain ⟨⟨l0, p0⟩, h1, h2⟩ := h
        simp only [Prod.mk.injEq] at h2
        obtain ⟨h2, rfl⟩ := h2
        obtain ⟨es2, v', Q2, g1, g2, g3, g4⟩ := i2 l0 p0 h1
        refine .inr ⟨new ++ es2, v', Q2, ?_, fun x hx => ?_, g3, ?_⟩
        · rw [List.map_append, hnew, g1, ← h2]
          split <;> rfl
        · rcases List.mem_append.1 hx with h | h
          · exact hok x h
          · exact g2 x h
        · rw [g4, List.nil_append]
      have fin0 : ∀ (vp' : Value) (Q' : Mem), SLT p2.ns vp' Q' 2 → a.k = 0 → L_spec_ParseMany 0 (q + 1) 0 [frS eI6 (pr ++ c :: r), ptr 0, ptr 1, .int .i64 pr.length] (zB :: blk (outC p nil0 v) :: Q) = L_spec_ParseMany 0 q 0 [frS eI6 (pr ++ c :: r), ptr 0, ptr 1, .int .i64 (pr.length + 1)] (zB :: blk (outC p2 nil0 vp') :: Q') →
          (Option.map (fun x => ((if a.k = 0 then x.1 else a :: x.1), x.2)) (runM p2 r) = none → L_spec_ParseMany 0 (q + 1) 0 [frS eI6 (pr ++ c :: r), ptr 0, ptr 1, .int .i64 pr.length] (zB :: blk (outC p nil0 v) :: Q) = some (.agg #[.int .i64 3, nil0, .int .i64 0, .int .i64 0, .bool false, nil0], [])) ∧
          ∀ l p', Option.map (fun x => ((if a.k = 0 then x.1 else a :: x.1), x.2)) (runM p2 r) = some (l, p') → (l = [] ∧ ∃ (v' : Value) (Q' : Mem), SLT p'.ns v' Q' 0 ∧ L_spec_ParseMany 0 (q + 1) 0 [frS eI6 (pr ++ c :: r), ptr 0, ptr 1, .int .i64 pr.length] (zB :: blk (outC p nil0 v) :: Q) = some (.agg (outC p' nil0 v').toArray, Q')) ∨ ∃ (es2 : List (ActT × Bool)) (v' : Value) (Q' : Mem), es2.map Prod.fst = l ∧ (∀ x ∈ es2, okA x) ∧ SLT p'.ns v' Q' 1 ∧ L_spec_ParseMany 0 (q + 1) 0 [frS eI6 (pr ++ c :: r), ptr 0, ptr 1, .int .i64 pr.length] (zB :: blk (outC p nil0 v) :: Q) = some (.agg #[.int .i64 0, slO 0 (es2).length, .int .i64 p'.k, .int .i64 p'.s, .bool p'.lead, v'], famB (1 + Q'.length) 5 ((es2).map elA) :: (Q' ++ famM eI6 ((es2).map elA))) := by
        intro vp' Q' hs' hk hL
        obtain ⟨i1, i2⟩ := ih vp' Q' hs'
        rw [hL]
        refine ⟨fun h => i1 (by simpa using h), fun l p' h => ?_⟩
        refine i2 l p' ?_
        rw [← h]
        cases runM p2 r with
        | none => rfl
        | some x => simp [hk]
      by_cases hk : a.k = 0
      · rcases hN4 with ⟨h1, h2, rfl, rfl, rfl⟩ | ⟨h1, h2, rfl, rfl, rfl⟩ | ⟨h1, rfl, rfl, rfl⟩ | ⟨h1, rfl, rfl, rfl⟩
        · obtain ⟨vp', Q', hs', hcut⟩ := cutS0 (m := (zB :: blk (outC p2 nil0 nil0) :: (Q ++ [⟨[.int .i64 a.k, .int .i64 a.c, .int .i64 a.s, .bool a.lead, nil0], 0, true, true⟩, blk [.int .i64 p2.k, .int .i64 p2.s, .bool p2.lead, nil0]]))) (p2 := p2) (vp := nil0) (x1 := frS eI6 (pr ++ c :: r)) (x4 := .int .i64 (pr.length + 1)) rfl rfl (.inl ⟨h2, .inl rfl⟩) rfl rfl
          refine fin0 vp' Q' hs' hk ?_
          generalize hG : L_spec_ParseMany 0 q 0 [frS eI6 (pr ++ c :: r), ptr 0, ptr 1, .int .i64 (pr.length + 1)] _ = G
          have hcut := fun pv => (hcut pv (L_spec_ParseMany 0 q 0)).trans (b := L_spec_ParseMany 0 q 0 _ _) (c := G) (by rw [← hG])
          simp (maxSteps := 400000) -implicitDefEqProofs [-fcall_eq, L_spec_ParseMany, hx, hch', e5, hcall, eq_true hk, p1, hrm, hw, hcut]
        · obtain ⟨vp', Q', hs', hcut⟩ := cutS0 (m := (zB :: blk (outC p2 nil0 (roS 0 [])) :: (Q ++ [⟨[.int .i64 a.k, .int .i64 a.c, .int .i64 a.s, .bool a.lead, nil0], 0, true, true⟩, blk [.int .i64 p2.k, .int .i64 p2.s, .bool p2.lead, (roS 0 [])]]))) (p2 := p2) (vp := (roS 0 [])) (x1 := frS eI6 (pr ++ c :: r)) (x4 := .int .i64 (pr.length + 1)) rfl rfl (.inl ⟨h2, .inr rfl⟩) rfl rfl
          refine fin0 vp' Q' hs' hk ?_
          generalize hG : L_spec_ParseMany 0 q 0 [frS eI6 (pr ++ c :: r), ptr 0, ptr 1, .int .i64 (pr.length + 1)] _ = G
          have hcut := fun pv => (hcut pv (L_spec_ParseMany 0 q 0)).trans (b := L_spec_ParseMany 0 q 0 _ _) (c := G) (by rw [← hG])
          simp (maxSteps := 400000) -implicitDefEqProofs [-fcall_eq, L_spec_ParseMany, hx, hch', e5, hcall, eq_true hk, p1, hrm, hw, hcut]
        · obtain ⟨vp', Q', hs', hcut⟩ := cutS0 (m := (zB :: blk (outC p2 nil0 (slO (Q.length + 2) p2.ns.length)) :: (Q ++ [ownB eI6 p2.ns, ⟨[.int .i64 a.k, .int .i64 a.c, .int .i64 a.s, .bool a.lead, nil0], 0, true, true⟩, blk [.int .i64 p2.k, .int .i64 p2.s, .bool p2.lead, (slO (Q.length + 2) p2.ns.length)]]))) (p2 := p2) (vp := (slO (Q.length + 2) p2.ns.length)) (x1 := frS eI6 (pr ++ c :: r)) (x4 := .int .i64 (pr.length + 1)) rfl rfl (.inr ⟨_, rfl, at_row (zB :: blk (outC p2 nil0 (slO (Q.length + 2) p2.ns.length)) :: Q) [] _ (j := 0) (by simp) rfl, by omega⟩) rfl rfl
          refine fin0 vp' Q' hs' hk ?_
          generalize hG : L_spec_ParseMany 0 q 0 [frS eI6 (pr ++ c :: r), ptr 0, ptr 1, .int .i64 (pr.length + 1)] _ = G
          have hcut := fun pv => (hcut pv (L_spec_ParseMany 0 q 0)).trans (b := L_spec_ParseMany 0 q 0 _ _) (c := G) (by rw [← hG])
          simp (maxSteps := 400000) -implicitDefEqProofs [-fcall_eq, L_spec_ParseMany, hx, hch', e5, hcall, eq_true hk, p1, hrm, hw, hcut]
        · obtain ⟨vp', Q', hs', hcut⟩ := cutS0 (m := (zB :: blk (outC p2 nil0 nil0) :: (Q ++ [ownB eI6 a.ns, ⟨[.int .i64 a.k, .int .i64 a.c, .int .i64 a.s, .bool a.lead, (slO (Q.length + 2) a.ns.length)], 0, true, true⟩, blk [.int .i64 p2.k, .int .i64 p2.s, .bool p2.lead, nil0]]))) (p2 := p2) (vp := nil0) (x1 := frS eI6 (pr ++ c :: r)) (x4 := .int .i64 (pr.length + 1)) rfl rfl (.inl ⟨h1, .inl rfl⟩) rfl rfl
          refine fin0 vp' Q' hs' hk ?_
          generalize hG : L_spec_ParseMany 0 q 0 [frS eI6 (pr ++ c :: r), ptr 0, ptr 1, .int .i64 (pr.length + 1)] _ = G
          have hcut := fun pv => (hcut pv (L_spec_ParseMany 0 q 0)).trans (b := L_spec_ParseMany 0 q 0 _ _) (c := G) (by rw [← hG])
          simp (maxSteps := 400000) -implicitDefEqProofs [-fcall_eq, L_spec_ParseMany, hx, hch', e5, hcall, eq_true hk, p1, hrm, hw, hcut]
      · rcases hN4 with ⟨h1, h2, rfl, rfl, rfl⟩ | ⟨h1, h2, rfl, rfl, rfl⟩ | ⟨h1, rfl, rfl, rfl⟩ | ⟨h1, rfl, rfl, rfl⟩
        · have hdl : (zB :: blk (outC p2 (slO (Q.length + 3 + 1 + 1) (1)) nil0) :: Q).length = 2 + Q.length := by simp; omega
          have H : Fam eI6 (zB :: blk (outC p2 (slO (Q.length + 3 + 1 + 1) (1)) nil0) :: (Q ++ [⟨[.int .i64 a.k, .int .i64 a.c, .int .i64 a.s, .bool a.lead, nil0], 0, true, true⟩, blk [.int .i64 p2.k, .int .i64 p2.s, .bool p2.lead, nil0], ⟨[.int .i64 a.k, .int .i64 a.c, .int .i64 a.s, .bool a.lead, nil0], 5, true, true⟩, ⟨[.int .i64 a.k, .int .i64 a.c, .int .i64 a.s, .bool a.lead, nil0], 5, true, true⟩])) (Q.length + 3 + 1 + 1) 5 (List.range' (2 + Q.length) 0 ++ []) (([] ++ [(a, false)]).map elA) := by
            have := famG1 (es := []) (hd := zB :: blk (outC p2 (slO (Q.length + 3 + 1 + 1) (1)) nil0) :: Q) (R := [⟨[.int .i64 a.k, .int .i64 a.c, .int .i64 a.s, .bool a.lead, nil0], 0, true, true⟩, blk [.int .i64 p2.k, .int .i64 p2.s, .bool p2.lead, nil0], ⟨[.int .i64 a.k, .int .i64 a.c, .int .i64 a.s, .bool a.lead, nil0], 5, true, true⟩, ⟨[.int .i64 a.k, .int .i64 a.c, .int .i64 a.s, .bool a.lead, nil0], 5, true, true⟩]) (a := a) (jj := 3) (j := (Q.length + 3 + 1 + 1)) (by simp [famN]) rfl
            rw [hdl] at this
            exact this
          obtain ⟨vp', Q', hs', hcut⟩ := cutS (n := 1) (p2 := p2) (vp := nil0) (x1 := frS eI6 (pr ++ c :: r)) (x4 := .int .i64 (pr.length + 1)) rfl rfl H (by omega) (fun n hn => by simp only [List.mem_append, mem_range', List.mem_singleton, List.not_mem_nil, or_false] at hn; omega) (by simp) (.inl ⟨h2, .inl rfl⟩) rfl rfl
          refine fin [(a, false)] vp' Q' (by simp [hk]) (fun x hx => by simp at hx; subst hx; exact fun _ => h1) hs' ?_
          generalize hG : L_spec_ParseMany 0 q 0 [frS eI6 (pr ++ c :: r), ptr 0, ptr 1, .int .i64 (pr.length + 1)] _ = G
          have hcut := fun pv => (hcut pv (L_spec_ParseMany 0 q 0)).trans (b := L_spec_ParseMany 0 q 0 _ _) (c := G) (by rw [← hG]; simp)
          simp (maxSteps := 400000) -implicitDefEqProofs [-fcall_eq, L_spec_ParseMany, hx, hch', e5, hcall, hk, p1, hrm, hw, hcut]
        · have hdl : (zB :: blk (outC p2 (slO (Q.length + 3 + 1 + 1) (1)) (roS 0 [])) :: Q).length = 2 + Q.length := by simp; omega
          have H : Fam eI6 (zB :: blk (outC p2 (slO (Q.length + 3 + 1 + 1) (1)) (roS 0 [])) :: (Q ++ [⟨[.int .i64 a.k, .int .i64 a.c, .int .i64 a.s, .bool a.lead, nil0], 0, true, true⟩, blk [.int .i64 p2.k, .int .i64 p2.s, .bool p2.lead, (roS 0 [])], ⟨[.int .i64 a.k, .int .i64 a.c, .int .i64 a.s, .bool a.lead, nil0], 5, true, true⟩, ⟨[.int .i64 a.k, .int .i64 a.c, .int .i64 a.s, .bool a.lead, nil0], 5, true, true⟩])) (Q.length + 3 + 1 + 1) 5 (List.range' (2 + Q.length) 0 ++ []) (([] ++ [(a, false)]).map elA) := by
            have := famG1 (es := []) (hd := zB :: blk (outC p2 (slO (Q.length + 3 + 1 + 1) (1)) (roS 0 [])) :: Q) (R := [⟨[.int .i64 a.k, .int .i64 a.c, .int .i64 a.s, .bool a.lead, nil0], 0, true, true⟩, blk [.int .i64 p2.k, .int .i64 p2.s, .bool p2.lead, (roS 0 [])], ⟨[.int .i64 a.k, .int .i64 a.c, .int .i64 a.s, .bool a.lead, nil0], 5, true, true⟩, ⟨[.int .i64 a.k, .int .i64 a.c, .int .i64 a.s, .bool a.lead, nil0], 5, true, true⟩]) (a := a) (jj := 3) (j := (Q.length + 3 + 1 + 1)) (by simp [famN]) rfl
            rw [hdl] at this
            exact this
          obtain ⟨vp', Q', hs', hcut⟩ := cutS (n := 1) (p2 := p2) (vp := (roS 0 [])) (x1 := frS eI6 (pr ++ c :: r)) (x4 := .int .i64 (pr.length + 1)) rfl rfl H (by omega) (fun n hn => by simp only [List.mem_append, mem_range', List.mem_singleton, List.not_mem_nil, or_false] at hn; omega) (by simp) (.inl ⟨h2, .inr rfl⟩) rfl rfl
          refine fin [(a, false)] vp' Q' (by simp [hk]) (fun x hx => by simp at hx; subst hx; exact fun _ => h1) hs' ?_
          generalize hG : L_spec_ParseMany 0 q 0 [frS eI6 (pr ++ c :: r), ptr 0, ptr 1, .int .i64 (pr.length + 1)] _ = G
          have hcut := fun pv => (hcut pv (L_spec_ParseMany 0 q 0)).trans (b := L_spec_ParseMany 0 q 0 _ _) (c := G) (by rw [← hG]; simp)
          simp (maxSteps := 400000) -implicitDefEqProofs [-fcall_eq, L_spec_ParseMany, hx, hch', e5, hcall, hk, p1, hrm, hw, hcut]
        · have hdl : (zB :: blk (outC p2 (slO (Q.length + 4 + 1 + 1) (1)) (slO (Q.length + 2) p2.ns.length)) :: Q).length = 2 + Q.length := by simp; omega
          have H : Fam eI6 (zB :: blk (outC p2 (slO (Q.length + 4 + 1 + 1) (1)) (slO (Q.length + 2) p2.ns.length)) :: (Q ++ [ownB eI6 p2.ns, ⟨[.int .i64 a.k, .int .i64 a.c, .int .i64 a.s, .bool a.lead, nil0], 0, true, true⟩, blk [.int .i64 p2.k, .int .i64 p2.s, .bool p2.lead, (slO (Q.length + 2) p2.ns.length)], ⟨[.int .i64 a.k, .int .i64 a.c, .int .i64 a.s, .bool a.lead, nil0], 5, true, true⟩, ⟨[.int .i64 a.k, .int .i64 a.c, .int .i64 a.s, .bool a.lead, nil0], 5, true, true⟩])) (Q.length + 4 + 1 + 1) 5 (List.range' (2 + Q.length) 0 ++ []) (([] ++ [(a, false)]).map elA) := by
            have := famG1 (es := []) (hd := zB :: blk (outC p2 (slO (Q.length + 4 + 1 + 1) (1)) (slO (Q.length + 2) p2.ns.length)) :: Q) (R := [ownB eI6 p2.ns, ⟨[.int .i64 a.k, .int .i64 a.c, .int .i64 a.s, .bool a.lead, nil0], 0, true, true⟩, blk [.int .i64 p2.k, .int .i64 p2.s, .bool p2.lead, (slO (Q.length + 2) p2.ns.length)], ⟨[.int .i64 a.k, .int .i64 a.c, .int .i64 a.s, .bool a.lead, nil0], 5, true, true⟩, ⟨[.int .i64 a.k, .int .i64 a.c, .int .i64 a.s, .bool a.lead, nil0], 5, true, true⟩]) (a := a) (jj := 4) (j := (Q.length + 4 + 1 + 1)) (by simp [famN]) rfl
            rw [hdl] at this
            exact this
          obtain ⟨vp', Q', hs', hcut⟩ := cutS (n := 1) (p2 := p2) (vp := (slO (Q.length + 2) p2.ns.length)) (x1 := frS eI6 (pr ++ c :: r)) (x4 := .int .i64 (pr.length + 1)) rfl rfl H (by omega) (fun n hn => by simp only [List.mem_append, mem_range', List.mem_singleton, List.not_mem_nil, or_false] at hn; omega) (by simp) (.inr ⟨_, rfl, at_row (zB :: blk (outC p2 (slO (Q.length + 4 + 1 + 1) (1)) (slO (Q.length + 2) p2.ns.length)) :: Q) [] _ (j := 0) (by simp) rfl, by omega, by omega, by simp only [List.mem_append, mem_range', List.mem_singleton, List.not_mem_nil, or_false]; omega⟩) rfl rfl
          refine fin [(a, false)] vp' Q' (by simp [hk]) (fun x hx => by simp at hx; subst hx; exact fun _ => h1) hs' ?_
          generalize hG : L_spec_ParseMany 0 q 0 [frS eI6 (pr ++ c :: r), ptr 0, ptr 1, .int .i64 (pr.length + 1)] _ = G
          have hcut := fun pv => (hcut pv (L_spec_ParseMany 0 q 0)).trans (b := L_spec_ParseMany 0 q 0 _ _) (c := G) (by rw [← hG]; simp)
          simp (maxSteps := 400000) -implicitDefEqProofs [-fcall_eq, L_spec_ParseMany, hx, hch', e5, hcall, hk, p1, hrm, hw, hcut]
        · have hdl : (zB :: blk (outC p2 (slO (Q.length + 4 + 1 + 1) (1)) nil0) :: Q).length = 2 + Q.length := by simp; omega
          have H : Fam eI6 (zB :: blk (outC p2 (slO (Q.length + 4 + 1 + 1) (1)) nil0) :: (Q ++ [ownB eI6 a.ns, ⟨[.int .i64 a.k, .int .i64 a.c, .int .i64 a.s, .bool a.lead, (slO (Q.length + 2) a.ns.length)], 0, true, true⟩, blk [.int .i64 p2.k, .int .i64 p2.s, .bool p2.lead, nil0], ⟨[.int .i64 a.k, .int .i64 a.c, .int .i64 a.s, .bool a.lead, (slO (Q.length + 2) a.ns.length)], 5, true, true⟩, ⟨[.int .i64 a.k, .int .i64 a.c, .int .i64 a.s, .bool a.lead, (slO (Q.length + 2) a.ns.length)], 5, true, true⟩])) (Q.length + 4 + 1 + 1) 5 (List.range' (2 + Q.length) 0 ++ [(Q.length + 2)]) (([] ++ [(a, true)]).map elA) := by
            have := famG2 (es := []) (hd := zB :: blk (outC p2 (slO (Q.length + 4 + 1 + 1) (1)) nil0) :: Q) (R := [ownB eI6 a.ns, ⟨[.int .i64 a.k, .int .i64 a.c, .int .i64 a.s, .bool a.lead, (slO (Q.length + 2) a.ns.length)], 0, true, true⟩, blk [.int .i64 p2.k, .int .i64 p2.s, .bool p2.lead, nil0], ⟨[.int .i64 a.k, .int .i64 a.c, .int .i64 a.s, .bool a.lead, (slO (Q.length + 2) a.ns.length)], 5, true, true⟩, ⟨[.int .i64 a.k, .int .i64 a.c, .int .i64 a.s, .bool a.lead, (slO (Q.length + 2) a.ns.length)], 5, true, true⟩]) (a := a) (jj := 4) (j := (Q.length + 4 + 1 + 1)) (yy := 0) (y := (Q.length + 2)) (by simp [famN]) (by simp [famN]) (by omega) rfl rfl
            rw [hdl] at this
            exact this
          obtain ⟨vp', Q', hs', hcut⟩ := cutS (n := 1) (p2 := p2) (vp := nil0) (x1 := frS eI6 (pr ++ c :: r)) (x4 := .int .i64 (pr.length + 1)) rfl rfl H (by omega) (fun n hn => by simp only [List.mem_append, mem_range', List.mem_singleton, List.not_mem_nil, or_false] at hn; omega) (by simp) (.inl ⟨h1, .inl rfl⟩) rfl rfl
          refine fin [(a, true)] vp' Q' (by simp [hk]) (fun x hx => by simp at hx; subst hx; exact fun h => by cases h) hs' ?_
          generalize hG : L_spec_ParseMany 0 q 0 [frS eI6 (pr ++ c :: r), ptr 0, ptr 1, .int .i64 (pr.length + 1)] _ = G
          have hcut := fun pv => (hcut pv (L_spec_ParseMany 0 q 0)).trans (b := L_spec_ParseMany 0 q 0 _ _) (c := G) (by rw [← hG]; simp)
          simp (maxSteps := 400000) -implicitDefEqProofs [-fcall_eq, L_spec_ParseMany, hx, hch', e5, hcall, hk, p1, hrm, hw, hcut]
    · have hc : chB c = false := by simpa using hc
      have e0 : runM p (c :: r) = none := by rw [runM, if_neg (by simp [hc])]
      rw [hc] at hch
      refine ⟨fun _ => ?_, fun l p' h => by rw [e0] at h; cases h⟩
      simp (maxSteps := 400000) -implicitDefEqProofs [L_spec_ParseMany, retK_eq, hx, hch, e5]
end Go.Ab
