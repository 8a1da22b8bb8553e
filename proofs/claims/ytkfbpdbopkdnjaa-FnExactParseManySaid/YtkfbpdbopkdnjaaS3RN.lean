/- What the functions of the program answer, for all arguments that the theorems name as conditions. -/
import Derived.Test.YtkfbpdbopkdnjaaS3RM
namespace Go.Ab
set_option linter.unusedSimpArgs false
set_option linter.unusedVariables false
set_option maxHeartbeats 4000000

/-! ## ParseMany of the program: its loop -/
abbrev parB (p : ParT) (v : Value) : Blk := blk [.int .i64 p.k, .int .i64 p.s, .bool p.lead, v]
abbrev resZ : Blk := blk [.int .i64 0, nil0, .int .i64 0, .int .i64 0, .bool false, nil0]
theorem cutP {m : Mem} {j n : Nat} {ix : List Nat} {es : List (El Int)} {p2 : ParT} {vp x1 x2 x3 : Value} (hp : m[0]? = some (parB p2 vp)) (hr : m[1]? = some resZ) (H : Fam eI6 m j 5 ix es) (hj : 2 ≤ j) (hix : ∀ n ∈ ix, 2 ≤ n) (hk : ix.length < 4194000) (hv : (p2.ns = [] ∧ (vp = nil0 ∨ vp = roS 0 [])) ∨ ∃ z, vp = slO z p2.ns.length ∧ m[z]? = some (ownB eI6 p2.ns) ∧ 2 ≤ z ∧ z ≠ j ∧ z ∉ ix) (hx : [x1, x2, x3].all scal = true) : ∃ vp' Q', SLT p2.ns vp' Q' 3 ∧ ∀ pv J, cutK 0 m pv [ptr 0, ptr 1, slO j n, x1, x2, x3] J = J [ptr 0, ptr 1, slO 2 n, x1, x2, x3] (parB p2 vp' :: resZ :: famB (3 + Q'.length) 5 es :: (Q' ++ famM eI6 es)) := by
  have hx1 : scal x1 = true := by simp at hx; exact hx.1
  have hx2 : scal x2 = true := by simp at hx; exact hx.2.1
  have hx3 : scal x3 = true := by simp at hx; exact hx.2.2
  have j0 : ¬ 0 = j := by omega
  have j1 : ¬ 1 = j := by omega
  rcases hv with ⟨h1, h2⟩ | ⟨z, rfl, h2, h3, h4, h5⟩
  · have hN : (0 :: 1 :: j :: ix).Nodup := by
      have := H.nod
      refine List.nodup_cons.2 ⟨fun h => ?_, List.nodup_cons.2 ⟨fun h => ?_, this⟩⟩
      · simp only [List.mem_cons] at h
        rcases h with h | h | h
        · omega
        · omega
        · have := hix 0 h; omega
      · simp only [List.mem_cons] at h
        rcases h with h | h
        · omega
        · have := hix 1 h; omega
    have hin : (parB p2 vp).cells.all inert = true := by rcases h2 with rfl | rfl <;> rfl
    obtain ⟨c1, c2⟩ := H.can3a eI6 hp hin hr rfl hN hk
    refine ⟨vp, [], .inl ⟨h1, rfl, h2⟩, fun pv J => ?_⟩
    exact cut_of c1 c2 (by simp [nmV_scal hx1, nmV_scal hx2, nmV_scal hx3]) (by simp [rnV_scal hx1, rnV_scal hx2, rnV_scal hx3, j0, j1])
  · have hN : (0 :: 1 :: j :: z :: ix).Nodup := by
      have := List.nodup_cons.1 H.nod
      refine List.nodup_cons.2 ⟨fun h => ?_, List.nodup_cons.2 ⟨fun h => ?_, List.nodup_cons.2 ⟨fun h => ?_, List.nodup_cons.2 ⟨h5, this.2⟩⟩⟩⟩
      · simp only [List.mem_cons] at h
        rcases h with h | h | h | h
        · omega
        · omega
        · omega
        · have := hix 0 h; omega
      · simp only [List.mem_cons] at h
        rcases h with h | h | h
        · omega
        · omega
        · have := hix 1 h; omega
      · simp only [List.mem_cons] at h
        rcases h with h | h
        · omega
        · exact this.1 h
    obtain ⟨c1, c2⟩ := H.can3b eI6 eI6 (cs := [.int .i64 p2.k, .int .i64 p2.s, .bool p2.lead]) (n := p2.ns.length) (c := p2.ns.length) (y := z) hp rfl hr rfl h2 hN hk
    refine ⟨slO 3 p2.ns.length, [ownB eI6 p2.ns], .inr ⟨rfl, rfl⟩, fun pv J => ?_⟩
    exact cut_of c1 c2 (by simp [nmV_scal hx1, nmV_scal hx2, nmV_scal hx3]) (by simp [rnV_scal hx1, rnV_scal hx2, rnV_scal hx3, j0, j1])
theorem famP0 {es : List (ActT × Bool)} {Q R : Mem} {b0 b1 : Blk} : Fam eI6 (b0 :: b1 :: ⟨famX (3 + Q.length) (es.map elA), 5, true, true⟩ :: (Q ++ (famM eI6 (es.map elA) ++ R))) 2 5 (List.range' (3 + Q.length) (famN (es.map elA))) (es.map elA) := by
  refine Fam.of_row eI6 rfl (fun i x h => ?_) (by omega) (ok_Al es)
  have := in_row (b0 :: b1 :: ⟨famX (3 + Q.length) (es.map elA), 5, true, true⟩ :: Q) (famM eI6 (es.map elA)) R (b := 3 + Q.length) (k := i + 1) (i := i) (n := 3 + Q.length + i) (by simp; omega) (by rw [List.getElem?_range' (by omega)]; simp) h
  simpa using this
theorem famP1 {es : List (ActT × Bool)} {Q R : Mem} {b0 b1 b2 : Blk} {a : ActT} {jj j : Nat} (hj : j = 3 + Q.length + famN (es.map elA) + jj) (ha : a.ns = []) (hR : R[jj]? = some ⟨famX (3 + Q.length) (es.map elA) ++ (actPre a ++ [nil0]), 5, true, true⟩) : Fam eI6 (b0 :: b1 :: b2 :: (Q ++ (famM eI6 (es.map elA) ++ R))) j 5 (List.range' (3 + Q.length) (famN (es.map elA)) ++ []) ((es ++ [(a, false)]).map elA) := by
  have hm : b0 :: b1 :: b2 :: (Q ++ (famM eI6 (es.map elA) ++ R)) = (b0 :: b1 :: b2 :: Q) ++ (famM eI6 (es.map elA) ++ R) := by simp
  rw [hm, List.map_append]
  refine Fam.snoc eI6 (j := 0) (m := []) (by simp) (ok_Al es) (elA_ok (a, false)) (fun i n b h1 h2 => in_row _ _ R (by simp; omega) h1 h2) (fun i n b h1 h2 => by simp at h1) rfl (nod_row0 (by omega)) (cs := famX (3 + Q.length) (es.map elA) ++ (actPre a ++ [nil0])) ?_ (at_row _ _ R (j := jj) (by rw [famM_len]; simp; omega) hR)
  rw [famI_range]
  rfl
theorem famP2 {es : List (ActT × Bool)} {Q R : Mem} {b0 b1 b2 : Blk} {a : ActT} {jj j yy y : Nat} (hj : j = 3 + Q.length + famN (es.map elA) + jj) (hy : y = 3 + Q.length + famN (es.map elA) + yy) (hne : yy ≠ jj) (hRy : R[yy]? = some (ownB eI6 a.ns)) (hR : R[jj]? = some ⟨famX (3 + Q.length) (es.map elA) ++ (actPre a ++ [slO y a.ns.length]), 5, true, true⟩) : Fam eI6 (b0 :: b1 :: b2 :: (Q ++ (famM eI6 (es.map elA) ++ R))) j 5 (List.range' (3 + Q.length) (famN (es.map elA)) ++ [y]) ((es ++ [(a, true)]).map elA) := by
  have hm : b0 :: b1 :: b2 :: (Q ++ (famM eI6 (es.map elA) ++ R)) = (b0 :: b1 :: b2 :: Q) ++ (famM eI6 (es.map elA) ++ R) := by simp
  rw [hm, List.map_append]
  refine Fam.snoc eI6 (j := 0) (m := []) (by simp) (ok_Al es) (elA_ok (a, true)) (fun i n b h1 h2 => in_row _ _ R (by simp; omega) h1 h2) (fun i n b h1 h2 => ?_) rfl (nod_row1 (by omega) (by omega) (by omega)) (cs := famX (3 + Q.length) (es.map elA) ++ (actPre a ++ [slO y a.ns.length])) ?_ (at_row _ _ R (j := jj) (by rw [famM_len]; simp; omega) hR)
  · have hi := (List.getElem?_eq_some_iff.1 h1).1
    have : i = 0 := by simpa using hi
    subst this
    simp at h1
    have h2 : some (ownB eI6 ([] ++ (a.ns ++ []))) = some b := h2
    rw [← h2, List.nil_append, List.append_nil, ← h1]
    exact at_row _ _ R (j := yy) (by rw [famM_len]; simp; omega) hRy
  · rw [famI_range]
    rfl
theorem l_impl_ParseMany (r : List Int) : ∀ (pr : List Int) (p : ParT) (v : Value) (Q : Mem) (es : List (ActT × Bool)) (q : Nat), r.length < q → (pr ++ r).length < 1100000 → es.length ≤ pr.length → parF p = 0 → SLT p.ns v Q 3 → (∀ x ∈ es, okA x) →
    (runM p r = none → L_impl_ParseMany 0 q 0 [ptr 0, ptr 1, slO 2 es.length, frS eI6 (pr ++ r), .int .i64 (pr ++ r).length, .int .i64 pr.length] (parB p v :: resZ :: famB (3 + Q.length) 5 (es.map elA) :: (Q ++ famM eI6 (es.map elA))) = some (.agg #[.int .i64 3, nil0, .int .i64 0, .int .i64 0, .bool false, nil0], [])) ∧
    ∀ l p', runM p r = some (l, p') → ∃ es2 v' Q', es2.map Prod.fst = l ∧ (∀ x ∈ es2, okA x) ∧ SLT p'.ns v' Q' 1 ∧ L_impl_ParseMany 0 q 0 [ptr 0, ptr 1, slO 2 es.length, frS eI6 (pr ++ r), .int .i64 (pr ++ r).length, .int .i64 pr.length] (parB p v :: resZ :: famB (3 + Q.length) 5 (es.map elA) :: (Q ++ famM eI6 (es.map elA))) = some (.agg #[.int .i64 0, slO 0 (es ++ es2).length, .int .i64 p'.k, .int .i64 p'.s, .bool p'.lead, v'], famB (1 + Q'.length) 5 ((es ++ es2).map elA) :: (Q' ++ famM eI6 ((es ++ es2).map elA))) := by
  induction r with
  | nil =>
    intro pr p v Q es q hq hl he hp hs hg
    obtain ⟨q, rfl⟩ : ∃ n, q = n + 1 := ⟨q - 1, by omega⟩
    refine ⟨fun h => ?_, fun l p' h => ?_⟩
    · rw [runM] at h
      cases h
    rw [runM] at h
    cases h
    have hN := famN_A es
    have ho2 : es.length < 1100000 := by simp at hl; omega
    rw [List.append_nil]
    have hret : ∃ v' Q', SLT p.ns v' Q' 1 ∧ ∀ pv, retK 0 (parB p v :: blk [.int .i64 0, slO 2 es.length, .int .i64 p.k, .int .i64 p.s, .bool p.lead, v] :: famB (3 + Q.length) 5 (es.map elA) :: (Q ++ famM eI6 (es.map elA))) pv (.agg #[.int .i64 0, slO 2 es.length, .int .i64 p.k, .int .i64 p.s, .bool p.lead, v]) = some (.agg #[.int .i64 0, slO 0 es.length, .int .i64 p.k, .int .i64 p.s, .bool p.lead, v'], famB (1 + Q'.length) 5 (es.map elA) :: (Q' ++ famM eI6 (es.map elA))) := by
      have H := famP0 (es := es) (Q := Q) (R := []) (b0 := parB p v) (b1 := blk [.int .i64 0, slO 2 es.length, .int .i64 p.k, .int .i64 p.s, .bool p.lead, v])
      rw [List.append_nil] at H
      rcases hs with ⟨h1, rfl, h3⟩ | ⟨rfl, rfl⟩
      · obtain ⟨c1, c2⟩ := H.can1 eI6 (by simp; omega)
        refine ⟨v, [], .inl ⟨h1, rfl, h3⟩, fun pv => ?_⟩
        rcases h3 with rfl | rfl
        · exact ret_of c1 c2 (by simp) (by simp)
        · exact ret_of c1 c2 (by simp) (by simp)
      · obtain ⟨c1, c2⟩ := H.can1y eI6 eI6 (y := 3) (l := p.ns) rfl (by
          have := H.nod
          rw [List.nodup_cons] at this ⊢
          refine ⟨fun h => ?_, List.nodup_cons.2 ⟨fun h => ?_, this.2⟩⟩
          · rw [List.mem_cons, mem_range'] at h
            simp at h
          · rw [mem_range'] at h
            simp at h) (by simp; omega)
        exact ⟨slO 1 p.ns.length, [ownB eI6 p.ns], .inr ⟨rfl, rfl⟩, fun pv => ret_of c1 c2 (by simp) (by simp)⟩
    obtain ⟨v', Q', hs', hret⟩ := hret
    refine ⟨[], v', Q', rfl, fun x hx => by simp at hx, hs', ?_⟩
    rw [List.append_nil]
    generalize hG : some (Value.agg #[.int .i64 0, slO 0 es.length, .int .i64 p.k, .int .i64 p.s, .bool p.lead, v'], famB (1 + Q'.length) 5 (es.map elA) :: (Q' ++ famM eI6 (es.map elA))) = G at hret ⊢
    generalize famM eI6 (es.map elA) = F at *
    simp only [famB] at hret ⊢
    generalize famX (3 + Q.length) (es.map elA) = C at *
    have hv : v = nil0 ∨ v = roS 0 [] ∨ ∃ n, v = slO 3 n := by
      rcases hs with ⟨_, _, h | h⟩ | ⟨h, _⟩
      · exact .inl h
      · exact .inr (.inl h)
      · exact .inr (.inr ⟨_, h⟩)
    rcases hv with rfl | rfl | ⟨n, rfl⟩ <;> simp (maxSteps := 400000) -implicitDefEqProofs [L_impl_ParseMany, hret]
  | cons c r ih =>
    intro pr p v Q es q hq hl he hp hs hg
    obtain ⟨q, rfl⟩ : ∃ n, q = n + 1 := ⟨q - 1, by omega⟩
    have hx := ixa_mid eI6 (sz := 1) rfl .i64 pr c r
    have hw := wrap_next (n := pr.length) (by simp at hl; omega)
    have hch := s_impl_isChar c
    have e5 : (pr.length : Int) < ((pr ++ c :: r).length : Int) := by simp
    have hN := famN_A es
    have ho2 : es.length < 1100000 := by simp at hl; omega
    have hF : (famM eI6 (es.map elA)).length = famN (es.map elA) := famM_len eI6 _
    have hC : (famX (3 + Q.length) (es.map elA)).length = es.length * 5 := famX_Alen _ es
    by_cases hc : chB c = true
    · rw [hc] at hch
      have hcb := chB_b hc
      have hp' := step_ok hp hcb
      obtain ⟨va0, vp0, m0, hHF, hX⟩ := s_impl_hear p c hp hcb
      have hst : runM p (c :: r) = (runM (stepP p c).2 r).map fun x => ((if (stepP p c).1.k = 0 then x.1 else (stepP p c).1 :: x.1), x.2) := by rw [runM, if_pos hc]
      rw [hst]
      generalize hA : (stepP p c).1 = a at *
      generalize hP : (stepP p c).2 = p2 at *
      have ih := fun v Q es he hs hg => ih (pr ++ [c]) p2 v Q es q (by simp at hq; omega) (by simpa using hl) he hp' hs hg
      have e1 : pr ++ [c] ++ r = pr ++ c :: r := by simp
      have e2 : ((pr ++ [c]).length : Int) = pr.length + 1 := by simp
      simp only [e1, e2] at ih
      generalize hFF : famM eI6 (es.map elA) = F at *
      simp only [famB]
      generalize hCC : famX (3 + Q.length) (es.map elA) = C at *
      generalize hNN : famN (es.map elA) = N at *
      generalize hLL : ((pr ++ c :: r).length : Int) = LL at *
      have hz : mapO (fz 64 (parB p v :: resZ :: ⟨C, 5, true, true⟩ :: (Q ++ F))) [parW p v, .int .i64 c] = some [parV p, .int .i64 c] := by
        rcases hs with ⟨h1, h2, h3⟩ | ⟨h1, h2⟩
        · rcases h3 with rfl | rfl <;> simp [mapO, h1, frS_nil]
        · subst h1 h2
          simp [mapO]
      have hch' : ∀ m, fcall X_impl_isChar [.int .i64 c] m = some (.bool true, m) := fun m => f_ask (mapO1 (fz_int 63 _ .i64 c)) hch rfl
      obtain ⟨va, vp, bs, hN4, hcall⟩ := f_tuple hz hX hHF
      have hlen : (parB p v :: resZ :: ⟨C, 5, true, true⟩ :: (Q ++ F)).length = N + Q.length + 3 := by simp [hF]; omega
      rw [hlen] at hN4
      have hpar : ∀ R, ldS (parB p v :: R) 4 (ptr 0) = some (parW p v) := fun R => by simp
      have p1 := fun m n o c n2 o2 len c2 => apL_sl (m := m) (sz := 5) (bytes := 56) (n := n) (o := o) (len := len) (c := c) (n2 := n2) (o2 := o2) (len2 := 1) (c2 := c2)
      have ho' : es.length + 1 < 1000000000 := by omega
      have hrd := fun o => rdB_all (C := C) (s := 5) (o := o) hC
      have hrm : ∀ w : Value, rdM (some ⟨[.int .i64 a.k, .int .i64 a.c, .int .i64 a.s, .bool a.lead, w], 5, true, true⟩) 0 5 = some [.int .i64 a.k, .int .i64 a.c, .int .i64 a.s, .bool a.lead, w] := fun w => rfl
      have fin : ∀ (new : List (ActT × Bool)) (vp' : Value) (Q' : Mem), new.map Prod.fst = (if a.k = 0 then [] else [a]) → (∀ x ∈ new, okA x) → SLT p2.ns vp' Q' 3 → L_impl_ParseMany 0 (q + 1) 0 [ptr 0, ptr 1, slO 2 es.length, frS eI6 (pr ++ c :: r), .int .i64 LL, .int .i64 pr.length] (parB p v :: resZ :: ⟨C, 5, true, true⟩ :: (Q ++ F)) = L_impl_ParseMany 0 q 0 [ptr 0, ptr 1, slO 2 (es ++ new).length, frS eI6 (pr ++ c :: r), .int .i64 LL, .int .i64 (pr.length + 1)] (parB p2 vp' :: resZ :: famB (3 + Q'.length) 5 ((es ++ new).map elA) :: (Q' ++ famM eI6 ((es ++ new).map elA))) →
          (Option.map (fun x => ((if a.k = 0 then x.1 else a :: x.1), x.2)) (runM p2 r) = none → L_impl_ParseMany 0 (q + 1) 0 [ptr 0, ptr 1, slO 2 es.length, frS eI6 (pr ++ c :: r), .int .i64 LL, .int .i64 pr.length] (parB p v :: resZ :: ⟨C, 5, true, true⟩ :: (Q ++ F)) = some (.agg #[.int .i64 3, nil0, .int .i64 0, .int .i64 0, .bool false, nil0], [])) ∧
          ∀ l p', Option.map (fun x => ((if a.k = 0 then x.1 else a :: x.1), x.2)) (runM p2 r) = some (l, p') → ∃ es2 v' Q', es2.map Prod.fst = l ∧ (∀ x ∈ es2, okA x) ∧ SLT p'.ns v' Q' 1 ∧ L_impl_ParseMany 0 (q + 1) 0 [ptr 0, ptr 1, slO 2 es.length, frS eI6 (pr ++ c :: r), .int .i64 LL, .int .i64 pr.length] (parB p v :: resZ :: ⟨C, 5, true, true⟩ :: (Q ++ F)) = some (.agg #[.int .i64 0, slO 0 (es ++ es2).length, .int .i64 p'.k, .int .i64 p'.s, .bool p'.lead, v'], famB (1 + Q'.length) 5 ((es ++ es2).map elA) :: (Q' ++ famM eI6 ((es ++ es2).map elA))) := by
        intro new vp' Q' hnew hok hs' hL
        have hnl : new.length ≤ 1 := by
          have := congrArg List.length hnew
          rw [List.length_map] at this
          split at this <;> simp only [List.length_nil, List.length_singleton] at this <;> omega
        obtain ⟨i1, i2⟩ := ih vp' Q' (es ++ new) (by rw [List.length_append, List.length_append, List.length_singleton]; omega) hs' (fun x hx => by
          rcases List.mem_append.1 hx with h | h
          · exact hg x h
          · exact hok x h)
        rw [hL]
        refine ⟨fun h => i1 (by simpa using h), fun l p' h => ?_⟩
        rw [Option.map_eq_some_iff] at h
        obtain ⟨⟨l0, p0⟩, h1, h2⟩ := h
        simp only [Prod.mk.injEq] at h2
        obtain ⟨h2, rfl⟩ := h2
        obtain ⟨es2, v', Q2, g1, g2, g3, g4⟩ := i2 l0 p0 h1
        refine ⟨new ++ es2, v', Q2, ?_, fun x hx => ?_, g3, ?_⟩
        · rw [List.map_append, hnew, g1, ← h2]
          split <;> rfl
        · rcases List.mem_append.1 hx with h | h
          · exact hok x h
          · exact g2 x h
        · rw [g4, List.append_assoc]
      by_cases hk : a.k = 0
      · rcases hN4 with ⟨h1, h2, rfl, rfl, rfl⟩ | ⟨h1, h2, rfl, rfl, rfl⟩ | ⟨h1, rfl, rfl, rfl⟩ | ⟨h1, rfl, rfl, rfl⟩
        · have H := famP0 (es := es) (Q := Q) (R := [⟨[.int .i64 a.k, .int .i64 a.c, .int .i64 a.s, .bool a.lead, nil0], 0, true, true⟩, parB p2 nil0]) (b0 := parB p2 nil0) (b1 := resZ)
          rw [hFF, hCC, hNN] at H
          obtain ⟨vp', Q', hs', hcut⟩ := cutP (n := es.length) (p2 := p2) (vp := nil0) (x1 := frS eI6 (pr ++ c :: r)) (x2 := .int .i64 LL) (x3 := .int .i64 (pr.length + 1)) rfl rfl H (by omega) (fun n hn => by simp only [List.mem_append, mem_range', List.mem_singleton, List.not_mem_nil, or_false] at hn; omega) (by simp; omega) (.inl ⟨h2, .inl rfl⟩) rfl
          refine fin [] vp' Q' (by simp [hk]) (fun x hx => by simp at hx) hs' ?_
          generalize hG : L_impl_ParseMany 0 q 0 [ptr 0, ptr 1, slO 2 (es ++ []).length, frS eI6 (pr ++ c :: r), .int .i64 LL, .int .i64 (pr.length + 1)] _ = G
          have hcut := fun pv => (hcut pv (L_impl_ParseMany 0 q 0)).trans (b := L_impl_ParseMany 0 q 0 _ _) (c := G) (by rw [← hG]; simp)
          simp (maxSteps := 400000) -implicitDefEqProofs [-fcall_eq, L_impl_ParseMany, hx, hch', e5, hpar, hcall, eq_true hk, p1, ho', hC, hrd, hrm, hF, hw, hcut]
        · have H := famP0 (es := es) (Q := Q) (R := [⟨[.int .i64 a.k, .int .i64 a.c, .int .i64 a.s, .bool a.lead, nil0], 0, true, true⟩, parB p2 (roS 0 [])]) (b0 := parB p2 (roS 0 [])) (b1 := resZ)
          rw [hFF, hCC, hNN] at H
          obtain ⟨vp', Q', hs', hcut⟩ := cutP (n := es.length) (p2 := p2) (vp := (roS 0 [])) (x1 := frS eI6 (pr ++ c :: r)) (x2 := .int .i64 LL) (x3 := .int .i64 (pr.length + 1)) rfl rfl H (by omega) (fun n hn => by simp only [List.mem_append, mem_range', List.mem_singleton, List.not_mem_nil, or_false] at hn; omega) (by simp; omega) (.inl ⟨h2, .inr rfl⟩) rfl
          refine fin [] vp' Q' (by simp [hk]) (fun x hx => by simp at hx) hs' ?_
          generalize hG : L_impl_ParseMany 0 q 0 [ptr 0, ptr 1, slO 2 (es ++ []).length, frS eI6 (pr ++ c :: r), .int .i64 LL, .int .i64 (pr.length + 1)] _ = G
          have hcut := fun pv => (hcut pv (L_impl_ParseMany 0 q 0)).trans (b := L_impl_ParseMany 0 q 0 _ _) (c := G) (by rw [← hG]; simp)
          simp (maxSteps := 400000) -implicitDefEqProofs [-fcall_eq, L_impl_ParseMany, hx, hch', e5, hpar, hcall, eq_true hk, p1, ho', hC, hrd, hrm, hF, hw, hcut]
        · have H := famP0 (es := es) (Q := Q) (R := [ownB eI6 p2.ns, ⟨[.int .i64 a.k, .int .i64 a.c, .int .i64 a.s, .bool a.lead, nil0], 0, true, true⟩, parB p2 (slO (N + Q.length + 3) p2.ns.length)]) (b0 := parB p2 (slO (N + Q.length + 3) p2.ns.length)) (b1 := resZ)
          rw [hFF, hCC, hNN] at H
          obtain ⟨vp', Q', hs', hcut⟩ := cutP (n := es.length) (p2 := p2) (vp := (slO (N + Q.length + 3) p2.ns.length)) (x1 := frS eI6 (pr ++ c :: r)) (x2 := .int .i64 LL) (x3 := .int .i64 (pr.length + 1)) rfl rfl H (by omega) (fun n hn => by simp only [List.mem_append, mem_range', List.mem_singleton, List.not_mem_nil, or_false] at hn; omega) (by simp; omega) (.inr ⟨_, rfl, at_row (parB p2 (slO (N + Q.length + 3) p2.ns.length) :: resZ :: _ :: Q) F _ (j := 0) (by simp; omega) rfl, by omega, by omega, by simp only [List.mem_append, mem_range', List.mem_singleton, List.not_mem_nil, or_false]; omega⟩) rfl
          refine fin [] vp' Q' (by simp [hk]) (fun x hx => by simp at hx) hs' ?_
          generalize hG : L_impl_ParseMany 0 q 0 [ptr 0, ptr 1, slO 2 (es ++ []).length, frS eI6 (pr ++ c :: r), .int .i64 LL, .int .i64 (pr.length + 1)] _ = G
          have hcut := fun pv => (hcut pv (L_impl_ParseMany 0 q 0)).trans (b := L_impl_ParseMany 0 q 0 _ _) (c := G) (by rw [← hG]; simp)
          simp (maxSteps := 400000) -implicitDefEqProofs [-fcall_eq, L_impl_ParseMany, hx, hch', e5, hpar, hcall, eq_true hk, p1, ho', hC, hrd, hrm, hF, hw, hcut]
        · have H := famP0 (es := es) (Q := Q) (R := [ownB eI6 a.ns, ⟨[.int .i64 a.k, .int .i64 a.c, .int .i64 a.s, .bool a.lead, (slO (N + Q.length + 3) a.ns.length)], 0, true, true⟩, parB p2 nil0]) (b0 := parB p2 nil0) (b1 := resZ)
          rw [hFF, hCC, hNN] at H
          obtain ⟨vp', Q', hs', hcut⟩ := cutP (n := es.length) (p2 := p2) (vp := nil0) (x1 := frS eI6 (pr ++ c :: r)) (x2 := .int .i64 LL) (x3 := .int .i64 (pr.length + 1)) rfl rfl H (by omega) (fun n hn => by simp only [List.mem_append, mem_range', List.mem_singleton, List.not_mem_nil, or_false] at hn; omega) (by simp; omega) (.inl ⟨h1, .inl rfl⟩) rfl
          refine fin [] vp' Q' (by simp [hk]) (fun x hx => by simp at hx) hs' ?_
          generalize hG : L_impl_ParseMany 0 q 0 [ptr 0, ptr 1, slO 2 (es ++ []).length, frS eI6 (pr ++ c :: r), .int .i64 LL, .int .i64 (pr.length + 1)] _ = G
          have hcut := fun pv => (hcut pv (L_impl_ParseMany 0 q 0)).trans (b := L_impl_ParseMany 0 q 0 _ _) (c := G) (by rw [← hG]; simp)
          simp (maxSteps := 400000) -implicitDefEqProofs [-fcall_eq, L_impl_ParseMany, hx, hch', e5, hpar, hcall, eq_true hk, p1, ho', hC, hrd, hrm, hF, hw, hcut]
      · rcases hN4 with ⟨h1, h2, rfl, rfl, rfl⟩ | ⟨h1, h2, rfl, rfl, rfl⟩ | ⟨h1, rfl, rfl, rfl⟩ | ⟨h1, rfl, rfl, rfl⟩
        · have H := famP1 (es := es) (Q := Q) (R := [⟨[.int .i64 a.k, .int .i64 a.c, .int .i64 a.s, .bool a.lead, nil0], 0, true, true⟩, parB p2 nil0, ⟨[.int .i64 a.k, .int .i64 a.c, .int .i64 a.s, .bool a.lead, nil0], 5, true, true⟩, ⟨C ++ [.int .i64 a.k, .int .i64 a.c, .int .i64 a.s, .bool a.lead, nil0], 5, true, true⟩]) (b0 := parB p2 nil0) (b1 := resZ) (b2 := ⟨C, 5, true, false⟩) (a := a) (jj := 3) (j := (Q.length + (N + 3) + 1 + 1 + 1)) (by rw [hNN]; omega) h1 (by rw [hCC]; rfl)
          rw [hFF, hNN] at H
          obtain ⟨vp', Q', hs', hcut⟩ := cutP (n := es.length + 1) (p2 := p2) (vp := nil0) (x1 := frS eI6 (pr ++ c :: r)) (x2 := .int .i64 LL) (x3 := .int .i64 (pr.length + 1)) rfl rfl H (by omega) (fun n hn => by simp only [List.mem_append, mem_range', List.mem_singleton, List.not_mem_nil, or_false] at hn; omega) (by simp; omega) (.inl ⟨h2, .inl rfl⟩) rfl
          refine fin [(a, false)] vp' Q' (by simp [hk]) (fun x hx => by simp at hx; subst hx; exact fun _ => h1) hs' ?_
          generalize hG : L_impl_ParseMany 0 q 0 [ptr 0, ptr 1, slO 2 (es ++ [(a, false)]).length, frS eI6 (pr ++ c :: r), .int .i64 LL, .int .i64 (pr.length + 1)] _ = G
          have hcut := fun pv => (hcut pv (L_impl_ParseMany 0 q 0)).trans (b := L_impl_ParseMany 0 q 0 _ _) (c := G) (by rw [← hG]; simp)
          simp (maxSteps := 400000) -implicitDefEqProofs [-fcall_eq, L_impl_ParseMany, hx, hch', e5, hpar, hcall, hk, p1, ho', hC, hrd, hrm, hF, hw, hcut]
        · have H := famP1 (es := es) (Q := Q) (R := [⟨[.int .i64 a.k, .int .i64 a.c, .int .i64 a.s, .bool a.lead, nil0], 0, true, true⟩, parB p2 (roS 0 []), ⟨[.int .i64 a.k, .int .i64 a.c, .int .i64 a.s, .bool a.lead, nil0], 5, true, true⟩, ⟨C ++ [.int .i64 a.k, .int .i64 a.c, .int .i64 a.s, .bool a.lead, nil0], 5, true, true⟩]) (b0 := parB p2 (roS 0 [])) (b1 := resZ) (b2 := ⟨C, 5, true, false⟩) (a := a) (jj := 3) (j := (Q.length + (N + 3) + 1 + 1 + 1)) (by rw [hNN]; omega) h1 (by rw [hCC]; rfl)
          rw [hFF, hNN] at H
          obtain ⟨vp', Q', hs', hcut⟩ := cutP (n := es.length + 1) (p2 := p2) (vp := (roS 0 [])) (x1 := frS eI6 (pr ++ c :: r)) (x2 := .int .i64 LL) (x3 := .int .i64 (pr.length + 1)) rfl rfl H (by omega) (fun n hn => by simp only [List.mem_append, mem_range', List.mem_singleton, List.not_mem_nil, or_false] at hn; omega) (by simp; omega) (.inl ⟨h2, .inr rfl⟩) rfl
          refine fin [(a, false)] vp' Q' (by simp [hk]) (fun x hx => by simp at hx; subst hx; exact fun _ => h1) hs' ?_
          generalize hG : L_impl_ParseMany 0 q 0 [ptr 0, ptr 1, slO 2 (es ++ [(a, false)]).length, frS eI6 (pr ++ c :: r), .int .i64 LL, .int .i64 (pr.length + 1)] _ = G
          have hcut := fun pv => (hcut pv (L_impl_ParseMany 0 q 0)).trans (b := L_impl_ParseMany 0 q 0 _ _) (c := G) (by rw [← hG]; simp)
          simp (maxSteps := 400000) -implicitDefEqProofs [-fcall_eq, L_impl_ParseMany, hx, hch', e5, hpar, hcall, hk, p1, ho', hC, hrd, hrm, hF, hw, hcut]
        · have H := famP1 (es := es) (Q := Q) (R := [ownB eI6 p2.ns, ⟨[.int .i64 a.k, .int .i64 a.c, .int .i64 a.s, .bool a.lead, nil0], 0, true, true⟩, parB p2 (slO (N + Q.length + 3) p2.ns.length), ⟨[.int .i64 a.k, .int .i64 a.c, .int .i64 a.s, .bool a.lead, nil0], 5, true, true⟩, ⟨C ++ [.int .i64 a.k, .int .i64 a.c, .int .i64 a.s, .bool a.lead, nil0], 5, true, true⟩]) (b0 := parB p2 (slO (N + Q.length + 3) p2.ns.length)) (b1 := resZ) (b2 := ⟨C, 5, true, false⟩) (a := a) (jj := 4) (j := (Q.length + (N + 4) + 1 + 1 + 1)) (by rw [hNN]; omega) h1 (by rw [hCC]; rfl)
          rw [hFF, hNN] at H
          obtain ⟨vp', Q', hs', hcut⟩ := cutP (n := es.length + 1) (p2 := p2) (vp := (slO (N + Q.length + 3) p2.ns.length)) (x1 := frS eI6 (pr ++ c :: r)) (x2 := .int .i64 LL) (x3 := .int .i64 (pr.length + 1)) rfl rfl H (by omega) (fun n hn => by simp only [List.mem_append, mem_range', List.mem_singleton, List.not_mem_nil, or_false] at hn; omega) (by simp; omega) (.inr ⟨_, rfl, at_row (parB p2 (slO (N + Q.length + 3) p2.ns.length) :: resZ :: _ :: Q) F _ (j := 0) (by simp; omega) rfl, by omega, by omega, by simp only [List.mem_append, mem_range', List.mem_singleton, List.not_mem_nil, or_false]; omega⟩) rfl
          refine fin [(a, false)] vp' Q' (by simp [hk]) (fun x hx => by simp at hx; subst hx; exact fun _ => h1) hs' ?_
          generalize hG : L_impl_ParseMany 0 q 0 [ptr 0, ptr 1, slO 2 (es ++ [(a, false)]).length, frS eI6 (pr ++ c :: r), .int .i64 LL, .int .i64 (pr.length + 1)] _ = G
          have hcut := fun pv => (hcut pv (L_impl_ParseMany 0 q 0)).trans (b := L_impl_ParseMany 0 q 0 _ _) (c := G) (by rw [← hG]; simp)
          simp (maxSteps := 400000) -implicitDefEqProofs [-fcall_eq, L_impl_ParseMany, hx, hch', e5, hpar, hcall, hk, p1, ho', hC, hrd, hrm, hF, hw, hcut]
        · have H := famP2 (es := es) (Q := Q) (R := [ownB eI6 a.ns, ⟨[.int .i64 a.k, .int .i64 a.c, .int .i64 a.s, .bool a.lead, (slO (N + Q.length + 3) a.ns.length)], 0, true, true⟩, parB p2 nil0, ⟨[.int .i64 a.k, .int .i64 a.c, .int .i64 a.s, .bool a.lead, (slO (N + Q.length + 3) a.ns.length)], 5, true, true⟩, ⟨C ++ [.int .i64 a.k, .int .i64 a.c, .int .i64 a.s, .bool a.lead, (slO (N + Q.length + 3) a.ns.length)], 5, true, true⟩]) (b0 := parB p2 nil0) (b1 := resZ) (b2 := ⟨C, 5, true, false⟩) (a := a) (jj := 4) (j := (Q.length + (N + 4) + 1 + 1 + 1)) (yy := 0) (y := N + Q.length + 3) (by rw [hNN]; omega) (by rw [hNN]; omega) (by omega) rfl (by rw [hCC]; rfl)
          rw [hFF, hNN] at H
          obtain ⟨vp', Q', hs', hcut⟩ := cutP (n := es.length + 1) (p2 := p2) (vp := nil0) (x1 := frS eI6 (pr ++ c :: r)) (x2 := .int .i64 LL) (x3 := .int .i64 (pr.length + 1)) rfl rfl H (by omega) (fun n hn => by simp only [List.mem_append, mem_range', List.mem_singleton, List.not_mem_nil, or_false] at hn; omega) (by simp; omega) (.inl ⟨h1, .inl rfl⟩) rfl
          refine fin [(a, true)] vp' Q' (by simp [hk]) (fun x hx => by simp at hx; subst hx; exact fun h => by cases h) hs' ?_
          generalize hG : L_impl_ParseMany 0 q 0 [ptr 0, ptr 1, slO 2 (es ++ [(a, true)]).length, frS eI6 (pr ++ c :: r), .int .i64 LL, .int .i64 (pr.length + 1)] _ = G
          have hcut := fun pv => (hcut pv (L_impl_ParseMany 0 q 0)).trans (b := L_impl_ParseMany 0 q 0 _ _) (c := G) (by rw [← hG]; simp)
          simp (maxSteps := 400000) -implicitDefEqProofs [-fcall_eq, L_impl_ParseMany, hx, hch', e5, hpar, hcall, hk, p1, ho', hC, hrd, hrm, hF, hw, hcut]
    · have hc : chB c = false := by simpa using hc
      have e0 : runM p (c :: r) = none := by rw [runM, if_neg (by simp [hc])]
      rw [hc] at hch
      refine ⟨fun _ => ?_, fun l p' h => by rw [e0] at h; cases h⟩
      generalize famM eI6 (es.map elA) = F at *
      simp only [famB]
      generalize famX (3 + Q.length) (es.map elA) = C at *
      generalize hLL : ((pr ++ c :: r).length : Int) = LL at *
      simp (maxSteps := 400000) -implicitDefEqProofs [L_impl_ParseMany, retK_eq, hx, hch, e5]
end Go.Ab
