/- What the functions of the program answer, for all arguments that the theorems name as conditions. -/
import Derived.Test.YtkfbpdbopkdnjaaS10Me
import Derived.Test.YtkfbpdbopkdnjaaS10Ma
import Derived.Test.YtkfbpdbopkdnjaaFC
namespace Go.Ab
set_option linter.unusedSimpArgs false
set_option linter.unusedVariables false
set_option maxHeartbeats 8000000

/-! ## Marks in pieces of which some are empty -/
theorem rcall_scl {X : List Value → Mem → Option VM} {m : Mem} {args : List Value} {v : Value} (ha : args.all scal = true) (hv : scal v = true) (hX : X args [] = some (v, [])) : rcall X args m = some (v, m) := by
  have h1 := nm_scal (k := 7) ha
  have h2 := rn_scal (j := 7) (π := ixOf []) (l := args) (r := []) ha
  rw [List.append_nil] at h2
  have h3 : mapO (rnV 8 inert (ixOf [])) args = some args := by rw [h2]; simp [mapO]
  rw [rcall_eq, h1]
  simp only [reach_nil, bo_some, h3, locM_nil, hX, List.length_nil, Nat.le_refl, if_true, rnV_scal hv]
  simp [mapB]
theorem s_markByteS_r0 (t : Int) : X_laws_markByteS [roS 0 [], .int .i64 t] [] = some (.int .i64 t, []) := by
  obtain ⟨q, hq⟩ : ∃ q, QQ = q + 1 := ⟨QQ - 1, by unfold QQ; omega⟩
  simp -implicitDefEqProofs [X_laws_markByteS, L_laws_markByteS, retK_eq, cutK_eq, hq]
abbrev memK (k : Nat) (l : List (List Int)) : Mem := famB k 1 (l.map elK) :: famM eU8 (l.map elK)
theorem elK_n (x : List Int) : (elK x).p.n = if x = [] then 0 else 1 := by unfold elK; split <;> rfl
theorem famX_K (k : Nat) (x : List Int) (r : List (List Int)) : famX k ((x :: r).map elK) = edV k x :: famX (k + if x = [] then 0 else 1) (r.map elK) := by
  rw [List.map_cons, famX, elK_n]
  unfold elK edV
  split <;> rfl
theorem famM_K (x : List Int) (r : List (List Int)) : famM eU8 ((x :: r).map elK) = edM x ++ famM eU8 (r.map elK) := by
  rw [List.map_cons, famM]
  congr 1
  unfold elK edM
  split
  · rfl
  · show [ownB eU8 ([] ++ (x ++ []))] = _
    simp
theorem famN_Kc (x : List Int) (r : List (List Int)) : famN ((x :: r).map elK) = (if x = [] then 0 else 1) + famN (r.map elK) := by
  rw [List.map_cons, famN, elK_n]
theorem markB_nil (t : Int) (x : List Int) : markB t x.length = [] ↔ x = [] := by
  constructor
  · intro h
    have := congrArg List.length h
    rw [markB_len] at this
    exact List.eq_nil_of_length_eq_zero this
  · intro h
    rw [h]
    rfl
theorem famN_markK (t : Int) (l : List (List Int)) : famN ((markSS t l).map elK) = famN (l.map elK) := by
  induction l generalizing t with
  | nil => rfl
  | cons x r ih =>
    rw [markSS, famN_Kc, famN_Kc, ih]
    by_cases h : x = []
    · rw [if_pos h, if_pos ((markB_nil t x).2 h)]
    · rw [if_neg h, if_neg (fun c => h ((markB_nil t x).1 c))]
theorem famN_mid (p : List (List Int)) (x : List Int) (t : Int) (r : List (List Int)) : famN ((p ++ markB t x.length :: r).map elK) = famN ((p ++ x :: r).map elK) := by
  rw [List.map_append, famN_app, famN_Kc, List.map_append, famN_app, famN_Kc]
  by_cases h : x = []
  · rw [if_pos h, if_pos ((markB_nil t x).2 h)]
  · rw [if_neg h, if_neg (fun c => h ((markB_nil t x).1 c))]
theorem cell_K (k : Nat) (p : List (List Int)) (x : List Int) (r : List (List Int)) : (famX k ((p ++ x :: r).map elK))[p.length]? = some (edV (k + famN (p.map elK)) x) := by
  rw [List.map_append, famX_app, famX_K]
  have hl := famX_Klen k p
  rw [List.getElem?_append_right (by omega), hl, Nat.sub_self]
  rfl
theorem memK_app (k : Nat) (p : List (List Int)) (x : List Int) (r : List (List Int)) : famM eU8 ((p ++ x :: r).map elK) = famM eU8 (p.map elK) ++ (edM x ++ famM eU8 (r.map elK)) := by
  rw [List.map_append, famM_app, famM_K]
theorem blk_K (k : Nat) (p : List (List Int)) (x : List Int) (r : List (List Int)) (hx : ¬ x = []) : (memK k (p ++ x :: r))[1 + famN (p.map elK)]? = some (ownB eU8 x) := by
  rw [memK, memK_app k p x r, Nat.add_comm 1, List.getElem?_cons_succ]
  have hl : (famM eU8 (p.map elK)).length = famN (p.map elK) := famM_len eU8 _
  rw [List.getElem?_append_right (by omega), hl, Nat.sub_self]
  unfold edM
  rw [if_neg hx]
  rfl
theorem set_K (k : Nat) (p : List (List Int)) (x y : List Int) (r : List (List Int)) (h : y.length = x.length) (hx : ¬ x = []) : (memK k (p ++ x :: r)).set (1 + famN (p.map elK)) (ownB eU8 y) = memK k (p ++ y :: r) := by
  have hy : ¬ y = [] := fun c => hx (List.eq_nil_of_length_eq_zero (by rw [← h, c]; rfl))
  have hl : (famM eU8 (p.map elK)).length = famN (p.map elK) := famM_len eU8 _
  have h1 : famX k ((p ++ y :: r).map elK) = famX k ((p ++ x :: r).map elK) := by
    rw [List.map_append, famX_app, famX_K, List.map_append, famX_app, famX_K]
    unfold edV
    rw [if_neg hx, if_neg hy, if_neg hx, if_neg hy, h]
  unfold memK famB
  rw [h1, memK_app k p x r, memK_app k p y r, Nat.add_comm 1, List.set_cons_succ, List.set_append_right _ _ (by omega), hl, Nat.sub_self]
  unfold edM
  rw [if_neg hx, if_neg hy]
  rfl
theorem l_markByteSSK (r : List (List Int)) : ∀ (p : List (List Int)) (t : Int) (q n N : Nat), r.length < q → n = (p ++ r).length → N = famN ((p ++ r).map elK) → n < 1100000 → (∀ x ∈ r, x.length < 1000000000) → 0 ≤ t → upSS t r ≤ 100000000000 → L_laws_markByteSS (N + 1) q 0 [slO 0 n, .int .i64 t, .int .i64 p.length] (memK 1 (p ++ r)) = some (.int .i64 (upSS t r), memK 1 (p ++ markSS t r)) := by
  induction r with
  | nil =>
    intro p t q n N hq hn hN hl hb h0 h1
    obtain ⟨q, rfl⟩ : ∃ n, q = n + 1 := ⟨q - 1, by omega⟩
    have hn' : n = p.length := by simpa using hn
    subst hn'
    rw [List.append_nil] at hN
    have hle := famN_K p
    have hret := fun pv => retN_fam eU8 (k := N + 1) (s := 1) (es := p.map elK) (pv := pv) (v := .int .i64 t) rfl (by rw [hN]) (ok_K p) (by omega)
    rw [List.append_nil, markSS, List.append_nil, upSS]
    generalize hM : memK 1 p = M
    have hret : ∀ pv, retK (N + 1) M pv (.int .i64 t) = some (.int .i64 t, M) := by rw [← hM]; exact hret
    simp -implicitDefEqProofs [L_laws_markByteSS, hret]
  | cons x r ih =>
    intro p t q n N hq hn hN hl hb h0 h1
    obtain ⟨q, rfl⟩ : ∃ n, q = n + 1 := ⟨q - 1, by omega⟩
    have hn' : n = p.length + (r.length + 1) := by simpa using hn
    have hup := upSS_le (t + x.length) r
    rw [upSS] at h1
    have hNm := famN_mid p x t r
    have h := ih (p ++ [markB t x.length]) (t + x.length) q n N (by simp at hq; omega) (by simpa using hn) (by rw [hN, ← hNm]; simp) hl (fun y hy => hb y (by simp [hy])) (by omega) h1
    have hw := wrap_next (n := p.length) (by omega)
    have hz := fun n' o cc => ixa_sl (sz := 1) .i64 (n := n') (o := o) (len := n) (c := cc) (j := (p.length : Int)) (by omega) (by omega)
    simp only [Int.toNat_natCast] at hz
    have hle := famN_K (p ++ x :: r)
    have hcell := cell_K 1 p x r
    have hcut := fun pv J => cutN_fam eU8 (k := N + 1) (s := 1) (n := n) (c := n) (es := (p ++ markB t x.length :: r).map elK) (xs := []) (ys := [.int .i64 (t + x.length), .int .i64 ((p.length : Int) + 1)]) (pv := pv) (J := J) (by rw [hNm, hN]) rfl rfl (ok_K _) (by rw [hNm]; rw [← hn] at hle; omega)
    simp only [List.nil_append] at hcut
    have e1 : p ++ [markB t x.length] ++ r = p ++ markB t x.length :: r := by simp
    have e2 : ((p ++ [markB t x.length]).length : Int) = p.length + 1 := by simp
    have e3 : p ++ [markB t x.length] ++ markSS (t + x.length) r = p ++ markB t x.length :: markSS (t + x.length) r := by simp
    rw [e1, e2, e3] at h
    rw [upSS, markSS]
    have hM0 : (memK 1 (p ++ x :: r))[0]? = some ⟨famX 1 ((p ++ x :: r).map elK), 1, true, true⟩ := rfl
    have hC : (famX 1 ((p ++ x :: r).map elK)).length = p.length + (r.length + 1) := by rw [famX_Klen]; simp
    have hcut : ∀ pv J, cutK (N + 1) (memK 1 (p ++ markB t x.length :: r)) pv [slO 0 n, .int .i64 (t + x.length), .int .i64 ((p.length : Int) + 1)] J = J [slO 0 n, .int .i64 (t + x.length), .int .i64 ((p.length : Int) + 1)] (memK 1 (p ++ markB t x.length :: r)) := hcut
    have hr : rcall X_laws_markByteS [edV (1 + famN (p.map elK)) x, .int .i64 t] (memK 1 (p ++ x :: r)) = some (.int .i64 (t + x.length), memK 1 (p ++ markB t x.length :: r)) := by
      unfold edV
      by_cases hx : x = []
      · subst hx
        have hr := rcall_scl (m := memK 1 (p ++ [] :: r)) rfl rfl (s_markByteS_r0 t)
        simpa [markB] using hr
      · rw [if_neg hx, rcall_one (blk_K 1 p x r hx) (rest := [.int .i64 t]) rfl (v := .int .i64 (t + x.length)) rfl (s_markByteS x t (hb x (by simp)) h0 (by omega)), set_K 1 p x (markB t x.length) r (by simp) hx]
    generalize edV (1 + famN (p.map elK)) x = XV at *
    generalize memK 1 (p ++ markB t x.length :: r) = M2 at *
    generalize memK 1 (p ++ x :: r) = M at *
    generalize famX 1 ((p ++ x :: r).map elK) = C at *
    have g1 : (p.length : Int) < n := by omega
    have g2 : p.length + 1 ≤ C.length := by omega
    simp (maxSteps := 400000) -implicitDefEqProofs [-rcall_eq, L_laws_markByteSS, hw, hz, g1, g2, hM0, hcell, hr, hcut, h]
theorem s_markByteSSK (l : List (List Int)) (t : Int) (hl : l.length < 1100000) (hb : ∀ x ∈ l, x.length < 1000000000) (h0 : 0 ≤ t) (h1 : upSS t l ≤ 100000000000) : X_laws_markByteSS [slO 0 l.length, .int .i64 t] (memK 1 l) = some (.int .i64 (upSS t l), memK 1 (markSS t l)) := by
  have h := l_markByteSSK l [] t QQ l.length (famN (l.map elK)) (by unfold QQ; omega) rfl rfl hl hb h0 h1
  have hle := famN_K l
  have hcut := fun pv J => cutN_fam eU8 (k := famN (l.map elK) + 1) (s := 1) (n := l.length) (c := l.length) (es := l.map elK) (xs := []) (ys := [.int .i64 t, .int .i64 0]) (pv := pv) (J := J) rfl rfl rfl (ok_K _) (by omega)
  simp only [List.nil_append, List.length_nil, Int.natCast_zero] at h hcut
  have hcut : ∀ pv J, cutK (famN (l.map elK) + 1) (memK 1 l) pv [slO 0 l.length, .int .i64 t, .int .i64 0] J = J [slO 0 l.length, .int .i64 t, .int .i64 0] (memK 1 l) := hcut
  have hM : (memK 1 l).length = famN (l.map elK) + 1 := by simp
  generalize memK 1 l = M at *
  simp (maxSteps := 400000) -implicitDefEqProofs [X_laws_markByteSS, hM, hcut, h]
end Go.Ab
namespace Go.Ab
set_option linter.unusedSimpArgs false
set_option linter.unusedVariables false
set_option maxHeartbeats 4000000

/-! ## A call on a line that lies anywhere -/
abbrev lnS (o : Nat) (cur : List Int) (es : List (El Int)) : Mem := famB (o + 1 + (edM cur).length) 1 es :: (edM cur ++ famM eU8 es)
theorem lnS_len (o : Nat) (cur : List Int) (es : List (El Int)) : (lnS o cur es).length = 1 + (edM cur).length + famN es := by simp; omega
theorem rcall_ln {X : List Value → Mem → Option VM} (A B : Mem) (cur cur' : List Int) (n : Nat) (t : Bool) (m : Int) (es es' : List (El Int)) (rest : List Value) (v : Value) (hrest : rest.all scal = true) (hv : scal v = true) (hok : ∀ e ∈ es, e.ok eU8) (hok' : ∀ e ∈ es', e.ok eU8) (hN : famN es' = famN es) (hc : (edM cur').length = (edM cur).length) (hn : famN es < 4000000) (hX : X (.agg #[slO 0 n, edV 1 cur, .bool t, .int .i64 m] :: rest) (lnS 0 cur es) = some (v, lnS 0 cur' es')) : rcall X (.agg #[slO A.length n, edV (A.length + 1) cur, .bool t, .int .i64 m] :: rest) (A ++ (lnS A.length cur es ++ B)) = some (v, A ++ (lnS A.length cur' es' ++ B)) := by
  have hE := edM_le cur
  have H : LineSeg (A ++ (lnS A.length cur es ++ B)) A.length cur es := ⟨fun i x h => by
    have hi := (List.getElem?_eq_some_iff.1 h).1
    rw [List.getElem?_append_right (by omega), Nat.add_sub_cancel_left, List.getElem?_append_left hi]
    exact h, hok⟩
  have hnd : ([] ++ List.range' A.length (1 + (edM cur).length + famN es)).Nodup := List.nodup_range'
  have h1 := H.reach [] 4194304 (by simp) (by omega)
  have h2 := H.loc2 [] hnd
  have hix := ix_line hnd
  rw [List.nil_append] at h1 h2 hix
  have hnm : (Value.agg #[slO A.length n, edV (A.length + 1) cur, .bool t, .int .i64 m] :: rest).flatMap (nmV 8) = List.range' A.length (1 + (edM cur).length) := by
    rw [List.flatMap_cons, nm_scal hrest, List.append_nil, ← nm_edV]
    simp
  have hrn : mapO (rnV 8 inert (ixOf (List.range' A.length (1 + (edM cur).length + famN es)))) (.agg #[slO A.length n, edV (A.length + 1) cur, .bool t, .int .i64 m] :: rest) = some (.agg #[slO 0 n, edV 1 cur, .bool t, .int .i64 m] :: rest) := by
    have hr := rn_scal (j := 7) (π := ixOf (List.range' A.length (1 + (edM cur).length + famN es))) (l := rest) (r := []) hrest
    rw [List.append_nil] at hr
    have i0 := hix 0 (by omega)
    have i1 : ¬ cur = [] → ixOf (List.range' A.length (1 + (edM cur).length + famN es)) (A.length + 1) = some 1 := fun hd => hix 1 (by unfold edM; rw [if_neg hd]; simp; omega)
    generalize List.range' A.length (1 + (edM cur).length + famN es) = RR at *
    simp at i0
    have e : rnV 8 inert (ixOf RR) (.agg #[slO A.length n, edV (A.length + 1) cur, .bool t, .int .i64 m]) = some (.agg #[slO 0 n, edV 1 cur, .bool t, .int .i64 m]) := by
      unfold edV
      by_cases hd : cur = []
      · simp [hd, i0]
      · simp [hd, i0, i1 hd]
    rw [mapO_cons, e, hr]
    simp [mapO]
  have hlen : (List.range' A.length (1 + (edM cur).length + famN es)).length = 1 + (edM cur).length + famN es := by simp
  have hlen2 : (lnS 0 cur' es').length = 1 + (edM cur).length + famN es := by rw [lnS_len, hc, hN]
  rw [rcall_eq, hnm, h1, bo_some, hrn, bo_some, h2, bo_some]
  rw [show ([] : List Nat).length = 0 from rfl, hX, bo_some]
  simp only
  rw [if_pos (by rw [hlen, hlen2]; exact Nat.le_refl _), rnV_scal hv, bo_some, hlen2]
  generalize hLL : (A ++ (lnS A.length cur es ++ B)).length = LL
  generalize hπ : bk (List.range' A.length (1 + (edM cur).length + famN es)) LL (1 + (edM cur).length + famN es) = π
  have hbk : ∀ i, i < 1 + (edM cur).length + famN es → π i = some (A.length + i) := by
    intro i hi
    rw [← hπ]
    unfold bk
    rw [hlen, if_pos (by omega), List.getElem?_range' (by omega)]
    simp
  have hm1 := bkB_fam eU8 (π := π) es' (0 + 1 + (edM cur').length) (A.length + 1 + (edM cur').length) 1 true hok' (fun i hi => by rw [hbk _ (by omega), show A.length + (0 + 1 + (edM cur').length + i) = A.length + 1 + (edM cur').length + i by omega])
  have hm2 := mapB_fam eU8 (π := π) (edM cur' ++ famM eU8 es') (own_all cur' es')
  rw [show (⟨famX (0 + 1 + (edM cur').length) es', 1, true, true⟩ : Blk) = famB (0 + 1 + (edM cur').length) 1 es' from rfl, show (⟨famX (A.length + 1 + (edM cur').length) es', 1, true, true⟩ : Blk) = famB (A.length + 1 + (edM cur').length) 1 es' from rfl] at hm1
  rw [mapB_cons, hm1, bo_some, hm2, bo_some, bo_some]
  have hbs : (lnS A.length cur' es').length = 1 + (edM cur).length + famN es := by rw [lnS_len, hc, hN]
  have hs := setAll_seg A (lnS A.length cur es) B (lnS A.length cur' es') (by rw [hbs, lnS_len])
  rw [lnS_len] at hs
  rw [hlen, List.take_of_length_le (Nat.le_of_eq hbs), List.drop_of_length_le (Nat.le_of_eq hbs), List.append_nil, hs]
theorem lnS_ok (o N : Nat) (cur : List Int) (es : List (El Int)) (hok : ∀ e ∈ es, e.ok eU8) (hN : o + 1 + (edM cur).length + famN es ≤ N) : ∀ b ∈ lnS o cur es, b.live = true ∧ locB (List.range N) b = some b ∧ ∀ n ∈ b.cells.flatMap (nmV 8), n < N := by
  intro b hb
  rcases List.mem_cons.1 hb with rfl | hb
  · exact famB_ok eU8 hok hN
  · rcases List.mem_append.1 hb with hb | hb
    · obtain ⟨l, rfl⟩ := edM_own cur b hb
      exact own_ok eU8 l
    · exact famM_ok eU8 _ b hb
theorem lnS_nms (o : Nat) (cur : List Int) (es : List (El Int)) (hok : ∀ e ∈ es, e.ok eU8) : nms (lnS o cur es) = famN es := by
  have h1 : (nmB (famB (o + 1 + (edM cur).length) 1 es)).length = famN es := by
    rw [famB, nmB_fam eU8 es _ 1 true hok]
    simp
  have h2 : nms (edM cur) = 0 := by
    unfold edM
    split
    · rfl
    · simp [nms]
  rw [nms_cons, nms_app, nms_fam, h1, h2]
  omega
end Go.Ab
namespace Go.Ab
set_option linter.unusedSimpArgs false
set_option linter.unusedVariables false
set_option maxHeartbeats 4000000

/-! ## Marks in a line -/
theorem edM_mark (t : Int) (cur : List Int) : (edM (markB t cur.length)).length = (edM cur).length := by
  unfold edM
  by_cases h : cur = []
  · rw [if_pos h, if_pos ((markB_nil t cur).2 h)]
  · rw [if_neg h, if_neg (fun c => h ((markB_nil t cur).1 c))]
    rfl
theorem edV_mark (k : Nat) (t : Int) (cur : List Int) : edV k (markB t cur.length) = edV k cur := by
  unfold edV
  by_cases h : cur = []
  · rw [if_pos h, if_pos ((markB_nil t cur).2 h)]
  · rw [if_neg h, if_neg (fun c => h ((markB_nil t cur).1 c)), markB_len]
theorem lnS_app (o : Nat) (cur : List Int) (es : List (El Int)) (Q : Mem) : lnS o cur es ++ Q = famB (o + 1 + (edM cur).length) 1 es :: (edM cur ++ (famM eU8 es ++ Q)) := by
  unfold lnS
  simp
theorem rc_rows (cur : List Int) (rows : List (List Int)) (t : Int) (Q : Mem) (hl : rows.length < 1000000) (hb : ∀ x ∈ rows, x.length < 1000000000) (h0 : 0 ≤ t) (h1 : upSS t rows ≤ 100000000000) : rcall X_laws_markByteSS [slO 0 rows.length, .int .i64 t] (lnS 0 cur (rows.map elK) ++ Q) = some (.int .i64 (upSS t rows), lnS 0 cur ((markSS t rows).map elK) ++ Q) := by
  have hN := famN_K rows
  have h := rcall_famG eU8 [] (edM cur) Q 1 rows.length rows.length (rows.map elK) ((markSS t rows).map elK) [.int .i64 t] (.int .i64 (upSS t rows)) rfl rfl (ok_K rows) (ok_K _) (famN_markK t rows) (by omega) (s_markByteSSK rows t (by omega) hb h0 h1)
  simp only [List.nil_append, List.length_nil] at h
  rw [lnS_app, lnS_app]
  exact h
theorem rc_edit (cur : List Int) (es : List (El Int)) (t : Int) (Q : Mem) (hc : cur.length < 1000000000) (h0 : 0 ≤ t) (h1 : t ≤ 100000000000) : rcall X_laws_markByteS [edV 1 cur, .int .i64 t] (lnS 0 cur es ++ Q) = some (.int .i64 (t + cur.length), lnS 0 (markB t cur.length) es ++ Q) := by
  by_cases hd : cur = []
  · subst hd
    have hr := rcall_scl (m := lnS 0 [] es ++ Q) rfl rfl (s_markByteS_r0 t)
    simpa [markB, edV] using hr
  · have e0 : edM cur = [ownB eU8 cur] := by unfold edM; rw [if_neg hd]
    have e1 : edM (markB t cur.length) = [ownB eU8 (markB t cur.length)] := by unfold edM; rw [if_neg (fun c => hd ((markB_nil t cur).1 c))]
    have hv : edV 1 cur = slO 1 cur.length := by unfold edV; rw [if_neg hd]
    rw [hv, lnS_app, lnS_app, e0, e1, rcall_one (a := 1) (l := cur) rfl (rest := [.int .i64 t]) rfl (v := .int .i64 (t + cur.length)) rfl (s_markByteS cur t hc h0 h1)]
    rfl
theorem s_markLine (l : LnT) (t : Int) (hl : l.rows.length < 1000000) (hb : ∀ x ∈ l.rows, x.length < 1000000000) (hc : l.cur.length < 1000000000) (h0 : 0 ≤ t) (h1 : upSS t l.rows ≤ 10000000000) : X_laws_markLine [lnW 0 l, .int .i64 t] (lnS 0 l.cur (l.rows.map elK)) = some (.int .i64 (upSS t l.rows + l.cur.length), lnS 0 (markB (upSS t l.rows) l.cur.length) ((markSS t l.rows).map elK)) := by
  obtain ⟨rows, cur, tt, n⟩ := l
  simp only at hl hb hc h1 ⊢
  have hup := upSS_le t rows
  have hN := famN_K rows
  have c1 := fun Q => rc_rows cur rows t Q hl hb h0 (by omega)
  have c2 := fun Q => rc_edit cur ((markSS t rows).map elK) (upSS t rows) Q hc (by omega) (by omega)
  have l0 := lnS_len 0 cur (rows.map elK)
  have l1 := lnS_len 0 cur ((markSS t rows).map elK)
  have l2 := lnS_len 0 (markB (upSS t rows) cur.length) ((markSS t rows).map elK)
  rw [famN_markK] at l1 l2
  rw [edM_mark] at l2
  have hE := edM_le cur
  have ok : OkM (lnS 0 (markB (upSS t rows) cur.length) ((markSS t rows).map elK)) := lnS_ok 0 _ _ _ (ok_K _) (by rw [lnS_len]; omega)
  have hn := lnS_nms 0 (markB (upSS t rows) cur.length) ((markSS t rows).map elK) (ok_K _)
  rw [famN_markK] at hn
  have hret := fun pv Q => ok.retA Q (by omega) (v := .int .i64 (upSS t rows + cur.length)) rfl pv
  rw [l2, ← l0] at hret
  have g1 : (lnS 0 cur ((markSS t rows).map elK)).length = (lnS 0 cur (rows.map elK)).length := by rw [l0, l1]
  have hbx : ∀ b : Blk, (lnS 0 cur ((markSS t rows).map elK) ++ [b])[(lnS 0 cur (rows.map elK)).length]? = some b := fun b => by rw [← g1]; simp
  have hbx0 : ∀ b : Blk, (lnS 0 cur (rows.map elK) ++ [b])[(lnS 0 cur (rows.map elK)).length]? = some b := fun b => by simp
  clear l0 l1 l2 ok hn g1
  generalize lnS 0 cur ((markSS t rows).map elK) = M1 at *
  generalize lnS 0 (markB (upSS t rows) cur.length) ((markSS t rows).map elK) = M2 at *
  generalize lnS 0 cur (rows.map elK) = M0 at *
  have hf : flat (edV 1 cur) = true := by unfold edV; split <;> rfl
  simp (maxSteps := 400000) -implicitDefEqProofs [-rcall_eq, X_laws_markLine, c1, c2, hbx, hbx0, hret, hf]
end Go.Ab
namespace Go.Ab
set_option linter.unusedSimpArgs false
set_option linter.unusedVariables false
set_option maxHeartbeats 4000000

/-! ## Marks in ReadLine's answers -/
theorem markS_nilW (t : Int) : X_laws_markByteS [nilW, .int .i64 t] [] = some (.int .i64 t, []) := by
  obtain ⟨q, hq⟩ : ∃ q, QQ = q + 1 := ⟨QQ - 1, by unfold QQ; omega⟩
  simp -implicitDefEqProofs [X_laws_markByteS, L_laws_markByteS, retK_eq, cutK_eq, hq]
theorem rc_nilW (m : Mem) (t : Int) : rcall X_laws_markByteS [nilW, .int .i64 t] m = some (.int .i64 t, m) := by
  have e := markS_nilW t
  simp [e]
theorem s_markLineResult (O cur : List Int) (tt : Bool) (n : Int) (R : List (List Int)) (hO : O.length < 1000000000) (hl : R.length < 1000000) (hb : ∀ x ∈ R, x.length < 1000000000) (hc : cur.length < 1000000000) (h1 : upSS (1 + O.length) R ≤ 10000000000) : X_laws_markLineResult [lrV 0 true (slO 0 O.length) nilW (slO 1 R.length) (edV 2 cur) tt n, .int .i64 1] (raM O cur R) = some (.int .i64 (upSS (1 + O.length) R + cur.length), raM (markB 1 O.length) (markB (upSS (1 + O.length) R) cur.length) (markSS (1 + O.length) R)) := by
  have hup := upSS_le (1 + O.length) R
  have hN := famN_K R
  have hE := edM_le cur
  have ea : ∀ O cur R Q, raM O cur R ++ Q = [ownB eU8 O] ++ (lnS 1 cur (R.map elK) ++ Q) := fun O cur R Q => by
    rw [← List.append_assoc]
    rfl
  have c1 : ∀ Q, rcall X_laws_markByteS [slO 0 O.length, .int .i64 1] (raM O cur R ++ Q) = some (.int .i64 (1 + O.length), raM (markB 1 O.length) cur R ++ Q) := fun Q => by
    rw [ea, ea, rcall_one (a := 0) (l := O) rfl (rest := [.int .i64 1]) rfl (v := .int .i64 (1 + O.length)) rfl (s_markByteS O 1 hO (by omega) (by omega))]
    rfl
  have c2 : ∀ Q, rcall X_laws_markLine [.agg #[slO 1 R.length, edV 2 cur, .bool tt, .int .i64 n], .int .i64 (1 + O.length)] (raM (markB 1 O.length) cur R ++ Q) = some (.int .i64 (upSS (1 + O.length) R + cur.length), raM (markB 1 O.length) (markB (upSS (1 + O.length) R) cur.length) (markSS (1 + O.length) R) ++ Q) := fun Q => by
    rw [ea, ea]
    exact rcall_ln [ownB eU8 (markB 1 O.length)] Q cur (markB (upSS (1 + O.length) R) cur.length) R.length tt n (R.map elK) ((markSS (1 + O.length) R).map elK) [.int .i64 (1 + O.length)] (.int .i64 (upSS (1 + O.length) R + cur.length)) rfl rfl (ok_K _) (ok_K _) (famN_markK _ _) (edM_mark _ _) (by omega) (s_markLine ⟨R, cur, tt, n⟩ (1 + O.length) hl hb hc (by omega) h1)
  have l0 : (raM O cur R).length = 2 + (edM cur).length + famN (R.map elK) := by simp; omega
  have l1 : (raM (markB 1 O.length) cur R).length = 2 + (edM cur).length + famN (R.map elK) := by simp; omega
  have l2 : (raM (markB 1 O.length) (markB (upSS (1 + O.length) R) cur.length) (markSS (1 + O.length) R)).length = 2 + (edM cur).length + famN (R.map elK) := by
    simp only [List.length_cons, List.length_append, edM_mark, famM_len, famN_markK]
    omega
  have ok : OkM (raM (markB 1 O.length) (markB (upSS (1 + O.length) R) cur.length) (markSS (1 + O.length) R)) := by
    intro b hb
    rw [l2]
    rcases List.mem_cons.1 hb with rfl | hb
    · exact own_ok eU8 _
    · exact lnS_ok 1 _ _ _ (ok_K _) (by rw [edM_mark, famN_markK]; omega) b hb
  have hn : nms (raM (markB 1 O.length) (markB (upSS (1 + O.length) R) cur.length) (markSS (1 + O.length) R)) = famN (R.map elK) := by
    have := lnS_nms 1 (markB (upSS (1 + O.length) R) cur.length) ((markSS (1 + O.length) R).map elK) (ok_K _)
    rw [famN_markK] at this
    show nms (_ :: lnS 1 _ _) = _
    rw [nms_cons, this]
    simp
  have hret := fun pv Q => ok.retA Q (by omega) (v := .int .i64 (upSS (1 + O.length) R + cur.length)) rfl pv
  rw [l2, ← l0] at hret
  have hbx0 : ∀ b : Blk, (raM O cur R ++ [b])[(raM O cur R).length]? = some b := fun b => by simp
  have hbx1 : ∀ b : Blk, (raM (markB 1 O.length) cur R ++ [b])[(raM O cur R).length]? = some b := fun b => by rw [l0, ← l1]; simp
  have hf : flat (edV 2 cur) = true := by unfold edV; split <;> rfl
  clear ea l0 l1 l2 ok hn
  generalize raM (markB 1 O.length) (markB (upSS (1 + O.length) R) cur.length) (markSS (1 + O.length) R) = M2 at *
  generalize raM (markB 1 O.length) cur R = M1 at *
  generalize raM O cur R = M0 at *
  simp (maxSteps := 400000) -implicitDefEqProofs [-rcall_eq, X_laws_markLineResult, c1, c2, rc_nilW, hbx0, hbx1, hret, hf]
/-- Nothing was ready. -/
theorem s_markLineResult_0 (cur : List Int) (tt : Bool) (n : Int) (hc : cur.length < 1000000000) : X_laws_markLineResult [lrV 0 false nilW nilW (slO 0 0) (edV 1 cur) tt n, .int .i64 1] (r0M cur) = some (.int .i64 (1 + cur.length), r0M (markB 1 cur.length)) := by
  have c2 : ∀ Q, rcall X_laws_markLine [.agg #[slO 0 0, edV 1 cur, .bool tt, .int .i64 n], .int .i64 1] (r0M cur ++ Q) = some (.int .i64 (1 + cur.length), r0M (markB 1 cur.length) ++ Q) := fun Q => by
    have := rcall_ln [] Q cur (markB 1 cur.length) 0 tt n ([].map elK) ([].map elK) [.int .i64 1] (.int .i64 (1 + cur.length)) rfl rfl (ok_K _) (ok_K _) rfl (edM_mark _ _) (by simp [famN]) (s_markLine ⟨[], cur, tt, n⟩ 1 (by simp) (by simp) hc (by omega) (by simp [upSS]))
    have e : ∀ cur, lnS 0 cur ([].map elK) = r0M cur := fun cur => by
      unfold lnS r0M
      rw [List.map_nil, show famM eU8 ([] : List (El Int)) = [] from rfl, List.append_nil]
      rfl
    rw [List.nil_append, List.nil_append, show ([] : Mem).length = 0 from rfl, e] at this
    have e2 := e (markB 1 cur.length)
    rw [← e2]
    exact this
  have l0 : (r0M cur).length = 1 + (edM cur).length := by simp; omega
  have l2 : (r0M (markB 1 cur.length)).length = 1 + (edM cur).length := by
    simp only [List.length_cons, edM_mark]
    omega
  have hE := edM_le cur
  have ok : OkM (r0M (markB 1 cur.length)) := by
    intro b hb
    rcases List.mem_cons.1 hb with rfl | hb
    · exact own_ok eU8 _
    · obtain ⟨l, rfl⟩ := edM_own _ b hb
      exact own_ok eU8 l
  have hn : nms (r0M (markB 1 cur.length)) = 0 := by
    have h2 : ∀ c, nms (edM c) = 0 := fun c => by
      unfold edM
      split
      · rfl
      · simp [nms]
    show nms (_ :: edM _) = _
    rw [nms_cons, h2]
    simp
  have hret := fun pv Q => ok.retA Q (by omega) (v := .int .i64 (1 + cur.length)) rfl pv
  rw [l2, ← l0] at hret
  have hbx0 : ∀ b : Blk, (r0M cur ++ [b])[(r0M cur).length]? = some b := fun b => by simp
  have hf : flat (edV 1 cur) = true := by unfold edV; split <;> rfl
  clear l0 l2 ok hn
  generalize r0M (markB 1 cur.length) = M2 at *
  generalize r0M cur = M0 at *
  simp (maxSteps := 400000) -implicitDefEqProofs [-rcall_eq, X_laws_markLineResult, c2, rc_nilW, hbx0, hret, hf]
theorem s_markLineResult_b (c : Int) : X_laws_markLineResult [lrB c, .int .i64 1] [] = some (.int .i64 1, []) := by
  have e := markS_nilW 1
  have c3 : X_laws_markByteSS [nilW, .int .i64 1] [] = some (.int .i64 1, []) := by
    obtain ⟨q, hq⟩ : ∃ q, QQ = q + 1 := ⟨QQ - 1, by unfold QQ; omega⟩
    simp -implicitDefEqProofs [X_laws_markByteSS, L_laws_markByteSS, retK_eq, cutK_eq, hq]
  have c4 : X_laws_markLine [.agg #[nilW, nilW, .bool false, .int .i64 0], .int .i64 1] [] = some (.int .i64 1, []) := by
    simp -implicitDefEqProofs [X_laws_markLine, retK_eq, e, c3]
  simp -implicitDefEqProofs [X_laws_markLineResult, retK_eq, e, c4]
end Go.Ab
namespace Go.Ab
set_option linter.unusedSimpArgs false
set_option linter.unusedVariables false
set_option maxHeartbeats 4000000

/-! ## Held marks -/
theorem l_heldByteSS (l : List (List Int)) : ∀ (p : List (List Int)) (t : Int) (q : Nat), l.length < q → (p ++ l).length < 1100000 → (∀ x ∈ l, x.length < 1000000000) → 0 ≤ t → upSS t l ≤ 100000000000 → L_laws_heldByteSS 0 q 0 [frS eBS (p ++ markSS t l), .int .i64 t, .int .i64 p.length] [] = some (.int .i64 (upSS t l), []) := by
  induction l with
  | nil =>
    intro p t q hq hn hb h0 h1
    obtain ⟨q, rfl⟩ : ∃ n, q = n + 1 := ⟨q - 1, by omega⟩
    simp -implicitDefEqProofs [L_laws_heldByteSS, retK_eq, markSS, upSS]
  | cons x r ih =>
    intro p t q hq hn hb h0 h1
    obtain ⟨q, rfl⟩ : ∃ n, q = n + 1 := ⟨q - 1, by omega⟩
    have hup := upSS_le (t + x.length) r
    rw [upSS] at h1
    have h := ih (p ++ [markB t x.length]) (t + x.length) q (by simp at hq; omega) (by simpa using hn) (fun y hy => hb y (by simp [hy])) (by omega) h1
    have e1 : p ++ [markB t x.length] ++ markSS (t + x.length) r = p ++ markB t x.length :: markSS (t + x.length) r := by simp
    have e2 : ((p ++ [markB t x.length]).length : Int) = p.length + 1 := by simp
    rw [e1, e2] at h
    rw [upSS, markSS]
    have hx := ixa_mid eBS (sz := 1) rfl .i64 p (markB t x.length) (markSS (t + x.length) r)
    have hw := wrap_next (n := p.length) (by simp at hn; omega)
    have hc := s_heldByteS x.length t (hb x (by simp)) (by omega) (by omega)
    have g1 : (p.length : Int) < ((p ++ markB t x.length :: markSS (t + x.length) r).length : Int) := by simp
    have v0 : ¬ t + (x.length : Int) < 0 := by omega
    simp (maxSteps := 400000) -implicitDefEqProofs [L_laws_heldByteSS, retK_eq, cutK_eq, hx, hw, hc, g1, v0, h]
theorem s_heldByteSS (l : List (List Int)) (t : Int) (hn : l.length < 1100000) (hb : ∀ x ∈ l, x.length < 1000000000) (h0 : 0 ≤ t) (h1 : upSS t l ≤ 100000000000) : X_laws_heldByteSS [frS eBS (markSS t l), .int .i64 t] [] = some (.int .i64 (upSS t l), []) := by
  have h := l_heldByteSS l [] t QQ (by unfold QQ; omega) hn hb h0 h1
  simp at h
  simp -implicitDefEqProofs [X_laws_heldByteSS, retK_eq, cutK_eq, h]
abbrev mkL (t : Int) (l : LnT) : LnT := ⟨markSS t l.rows, markB (upSS t l.rows) l.cur.length, l.t, l.n⟩
theorem s_heldLine (l : LnT) (t : Int) (hl : l.rows.length < 1100000) (hb : ∀ x ∈ l.rows, x.length < 1000000000) (hc : l.cur.length < 1000000000) (h0 : 0 ≤ t) (h1 : upSS t l.rows ≤ 10000000000) : X_laws_heldLine [lnV (mkL t l), .int .i64 t] [] = some (.int .i64 (upSS t l.rows + l.cur.length), []) := by
  have hup := upSS_le t l.rows
  have c1 := s_heldByteSS l.rows t (by omega) hb h0 (by omega)
  have c2 := s_heldByteS l.cur.length (upSS t l.rows) hc (by omega) (by omega)
  have g1 : ¬ upSS t l.rows < 0 := by omega
  have g2 : ¬ upSS t l.rows + (l.cur.length : Int) < 0 := by omega
  simp -implicitDefEqProofs [X_laws_heldLine, retK_eq, c1, c2, g1, g2]
theorem s_heldLineResult (c : Int) (b : Bool) (o : Nat) (l : LnT) (ho : o < 1000000000) (hl : l.rows.length < 1100000) (hb : ∀ x ∈ l.rows, x.length < 1000000000) (hc : l.cur.length < 1000000000) (h1 : upSS (1 + o) l.rows ≤ 10000000000) : X_laws_heldLineResult [lrF c b (markB 1 o) [] (mkL (1 + o) l), .int .i64 1] [] = some (.int .i64 (upSS (1 + o) l.rows + l.cur.length), []) := by
  have hup := upSS_le (1 + o) l.rows
  have c1 := s_heldByteS o 1 ho (by omega) (by omega)
  have c2 := s_heldByteS 0 (1 + o) (by omega) (by omega) (by omega)
  have e : markB (1 + (o : Int)) 0 = [] := rfl
  rw [e, Int.natCast_zero, Int.add_zero] at c2
  have c3 := s_heldLine l (1 + o) hl hb hc (by omega) h1
  have g1 : ¬ 1 + (o : Int) < 0 := by omega
  have g2 : ¬ upSS (1 + o) l.rows + (l.cur.length : Int) < 0 := by omega
  simp -implicitDefEqProofs [X_laws_heldLineResult, retK_eq, c1, c2, c3, g1, g2]
/-- The law's own copy. -/
theorem s_markLineS (l : LnT) (hl : l.rows.length < 1100000) (hb : ∀ x ∈ l.rows, x.length < 1000000000) (hc : l.cur.length < 1000000000) (h1 : upSS 1 l.rows ≤ 10000000000) : X_laws_markLine [tlW 0 l, .int .i64 1] (tlM l) = some (.int .i64 (upSS 1 l.rows + l.cur.length), tlM (mkL 1 l)) := by
  obtain ⟨rows, cur, tt, n⟩ := l
  simp only at hl hb hc h1 ⊢
  have hup := upSS_le 1 rows
  have hN : ∀ r : List (List Int), famN (r.map elS) = r.length := elS_N
  have ea : ∀ l Q, tlM l ++ Q = famB 2 1 (l.rows.map elS) :: ownB eU8 l.cur :: (famM eU8 (l.rows.map elS) ++ Q) := fun l Q => by simp [tlM]
  have c1 : ∀ Q, rcall X_laws_markByteSS [slO 0 rows.length, .int .i64 1] (tlM ⟨rows, cur, tt, n⟩ ++ Q) = some (.int .i64 (upSS 1 rows), tlM ⟨markSS 1 rows, cur, tt, n⟩ ++ Q) := fun Q => by
    have h := rcall_famG eU8 [] [ownB eU8 cur] Q 1 rows.length rows.length (rows.map elS) ((markSS 1 rows).map elS) [.int .i64 1] (.int .i64 (upSS 1 rows)) rfl rfl (ok_S1 rows) (ok_S1 _) (by rw [hN, hN, markSS_len]) (by rw [hN]; omega) (s_markByteSS rows 1 (by omega) hb (by omega) (by omega))
    simp only [List.nil_append, List.length_nil] at h
    rw [ea, ea]
    exact h
  have c2 : ∀ Q, rcall X_laws_markByteS [slO 1 cur.length, .int .i64 (upSS 1 rows)] (tlM ⟨markSS 1 rows, cur, tt, n⟩ ++ Q) = some (.int .i64 (upSS 1 rows + cur.length), tlM (mkL 1 ⟨rows, cur, tt, n⟩) ++ Q) := fun Q => by
    rw [ea, ea, rcall_one (a := 1) (l := cur) rfl (rest := [.int .i64 (upSS 1 rows)]) rfl (v := .int .i64 (upSS 1 rows + cur.length)) rfl (s_markByteS cur (upSS 1 rows) hc (by omega) (by omega))]
    rfl
  have ll : ∀ l, (tlM l).length = l.rows.length + 2 := fun l => by simp [hN]
  have l0 := ll ⟨rows, cur, tt, n⟩
  have l1 := ll ⟨markSS 1 rows, cur, tt, n⟩
  have l2 := ll (mkL 1 ⟨rows, cur, tt, n⟩)
  rw [markSS_len] at l1 l2
  have ok : OkM (tlM (mkL 1 ⟨rows, cur, tt, n⟩)) := by
    intro b hb
    rw [l2]
    rcases List.mem_cons.1 hb with rfl | hb
    · exact famB_ok eU8 (ok_S1 _) (by rw [hN, markSS_len]; simp only; omega)
    · rcases List.mem_cons.1 hb with rfl | hb
      · exact own_ok eU8 _
      · exact famM_ok eU8 _ b hb
  have hn : nms (tlM (mkL 1 ⟨rows, cur, tt, n⟩)) = rows.length := by
    have h1 : (nmB (famB 2 1 ((markSS 1 rows).map elS))).length = rows.length := by
      rw [famB, nmB_fam eU8 _ _ 1 true (ok_S1 _)]
      simp [hN, markSS_len]
    rw [tlM, nms_cons, nms_cons, nms_fam, h1]
    simp
  have hret := fun pv Q => ok.retA Q (by rw [l2, hn]; simp only; omega) (v := .int .i64 (upSS 1 rows + cur.length)) rfl pv
  rw [l2, ← l0] at hret
  have hbx0 : ∀ b : Blk, (tlM ⟨rows, cur, tt, n⟩ ++ [b])[(tlM ⟨rows, cur, tt, n⟩).length]? = some b := fun b => by simp
  have hbx1 : ∀ b : Blk, (tlM ⟨markSS 1 rows, cur, tt, n⟩ ++ [b])[(tlM ⟨rows, cur, tt, n⟩).length]? = some b := fun b => by rw [l0, ← l1]; simp
  clear ea ll l0 l1 l2 ok hn
  generalize tlM (mkL 1 ⟨rows, cur, tt, n⟩) = M2 at *
  generalize tlM ⟨markSS 1 rows, cur, tt, n⟩ = M1 at *
  generalize tlM ⟨rows, cur, tt, n⟩ = M0 at *
  simp (maxSteps := 400000) -implicitDefEqProofs [-rcall_eq, X_laws_markLine, c1, c2, hbx0, hbx1, hret]
end Go.Ab
namespace Go.Ab
set_option linter.unusedSimpArgs false
set_option linter.unusedVariables false
set_option maxHeartbeats 40000000
theorem s_toWayR (w : WayT) : X_laws_toWay [wayV w] [] = some (wayV w, []) := by
  simp (maxSteps := 400000) -implicitDefEqProofs [X_laws_toWay, retK_eq]
theorem f_toWay (w : WayT) (m : Mem) : fcall X_laws_toWay [wayV w] m = some (wayV w, m) := by
  have h := s_toWayR w
  simp (maxSteps := 400000) -implicitDefEqProofs [h]
theorem fz_way (w : WayT) (m : Mem) : fz 64 m (wayV w) = some (wayV w) := by simp
theorem fz_lrF (c : Int) (b : Bool) (O : List Int) (L : LnT) (m : Mem) : fz 64 m (lrF c b O [] L) = some (lrF c b O [] L) := by simp
theorem can_mL (l : LnT) (hl : l.rows.length < 1100000) : Can (tlW 0 l) (tlM (mkL 1 l)) := by
  have h := can_tl (mkL 1 l) (by simp only [markSS_len]; exact hl)
  simp only [tlW, markSS_len, markB_len] at h
  exact h
theorem len_mL (l : LnT) : (tlM (mkL 1 l)).length = (tlM l).length := by
  have hN : ∀ r : List (List Int), famN (r.map elS) = r.length := elS_N
  simp [hN, markSS_len]
theorem fz_mL (l : LnT) : fz 64 (tlM (mkL 1 l)) (tlW 0 l) = some (lnV (mkL 1 l)) := by
  have h := fz_tl (mkL 1 l)
  simp only [tlW, markSS_len, markB_len] at h
  exact h
theorem law_core (w : WayT) (l : LnT) (x : Int) (hl : l.rows.length < 1100000) (hb : ∀ x ∈ l.rows, x.length < 1000000000) (hc : l.cur.length < 1000000000) (hsm : l.small) (hup : upSS 1 l.rows ≤ 10000000000) (S0 : X_laws_szLine [lnV l, .int .i64 1048576] [] = some (.int .i64 (szLn l 1048576), [])) (h0 : ¬ szLn l 1048576 < 0) (c : Int) (b t : Bool) (n : Int) (O : List Int) (L : LnT) (v0 : Value) (z1 z2 z3 z4 W' : Value) (w1 w2 w3 w4 : Nat → Value) (MS MI MK : Mem) (qq : Int) (hq : 0 ≤ qq)
    (fI : ∀ k, flat (w1 k) = true ∧ flat (w2 k) = true ∧ flat (w3 k) = true ∧ flat (w4 k) = true)
    (S : X_spec_ReadLine (rlA w l x) [] = some (v0, MS)) (fzS : fz 64 MS v0 = some (lrF c b O [] L))
    (I : X_impl_ReadLine (rlA w l x) [] = some (lrV c b z1 z2 z3 z4 t n, MI)) (canI : Can (lrV c b z1 z2 z3 z4 t n) MI) (hdI : HdM MI) (rnI : ∀ N, rnV 8 hard (sft N MI.length) (lrV c b z1 z2 z3 z4 t n) = some (lrV c b (w1 N) (w2 N) (w3 N) (w4 N) t n)) (fzI : fz 64 MI (lrV c b z1 z2 z3 z4 t n) = some (lrF c b O [] L))
    (E : X_laws_eqLineResult [lrF c b O [] L, lrF c b O [] L] [] = some (.bool true, []))
    (K : X_laws_markLineResult [lrV c b z1 z2 z3 z4 t n, .int .i64 1] MI = some (.int .i64 qq, MK)) (canK : Can (lrV c b z1 z2 z3 z4 t n) MK) (lenK : MK.length = MI.length) (fzK : fz 64 MK (lrV c b z1 z2 z3 z4 t n) = some W') (HH : X_laws_heldLineResult [W', .int .i64 1] [] = some (.int .i64 qq, [])) : X_laws_FnExactReadLine [wayV w, lnV l, .int .i64 x] [] = some (.bool true, []) := by
    have hup1 := upSS_le 1 l.rows
    obtain ⟨m1, hm1⟩ : ∃ M, ([blk (wayT w [])] : Mem) = M := ⟨_, rfl⟩
    have l1 : m1.length = 1 := by rw [← hm1]; rfl
    have b1_1 : m1[0]? = some (blk (wayT w [])) := by rw [← hm1]; rfl
    obtain ⟨m2, hm2⟩ : ∃ M, m1 ++ [blk [frS eBS l.rows, frS eU8 l.cur, .bool l.t, .int .i64 l.n]] = M := ⟨_, rfl⟩
    have l2 := box_len hm2
    have g2 := box_grow hm2
    have b1_2 := (g2 0 (by omega)).trans b1_1
    have b2_2 := box_get hm2
    have e3 : fcall X_laws_szLine [lnV l, .int .i64 1048576] m2 = some (.int .i64 (szLn l 1048576), m2) := f_ask (mapO2 (fz_ln l _) (fz_int 63 _ .i64 1048576)) S0 rfl
    have e4 : fcall X_laws_toWay [wayV w] m2 = some (wayV w, m2) := f_toWay w _
    obtain ⟨k5, m5, q5, e5, l5, g5, H5⟩ := n_toLine l hl hb hc m2
    have b1_5 := (g5 0 (by omega)).trans b1_2
    have b2_5 := (g5 m1.length (by omega)).trans b2_2
    obtain ⟨m6, e6, l6, kp6⟩ := n_ask (X := X_spec_ReadLine) (m := m5) (mapO3 (fz_way w _) (H5.fz (fz_tl l)) (fz_int 63 _ .i64 x)) S fzS
    obtain ⟨ob1, b1_6⟩ := kp6 _ _ b1_5
    have b1_6 : m6[0]? = some ⟨(wayT w []), 0, ob1, true⟩ := b1_6
    obtain ⟨ob2, b2_6⟩ := kp6 _ _ b2_5
    have b2_6 : m6[m1.length]? = some ⟨[frS eBS l.rows, frS eU8 l.cur, .bool l.t, .int .i64 l.n], 0, ob2, true⟩ := b2_6
    obtain ⟨m7, hm7⟩ : ∃ M, m6 ++ [blk (lrC c b (frS eU8 O) (frS eU8 []) (frS eBS L.rows) (frS eU8 L.cur) L.t L.n)] = M := ⟨_, rfl⟩
    have l7 := box_len hm7
    have g7 := box_grow hm7
    have b1_7 := (g7 0 (by omega)).trans b1_6
    have b2_7 := (g7 m1.length (by omega)).trans b2_6
    have b7_7 := box_get hm7
    obtain ⟨k8, m8, q8, e8, l8, g8, H8⟩ := n_toLine l hl hb hc m7
    have b1_8 := (g8 0 (by omega)).trans b1_7
    have b2_8 := (g8 m1.length (by omega)).trans b2_7
    have b7_8 := (g8 m6.length (by omega)).trans b7_7
    obtain ⟨m9, hm9⟩ : ∃ M, m8 ++ [blk [slO k8 l.rows.length, slO (k8 + 1) l.cur.length, .bool l.t, .int .i64 l.n]] = M := ⟨_, rfl⟩
    have l9 := box_len hm9
    have g9 := box_grow hm9
    have H8 := H8.grow g9
    have b1_9 := (g9 0 (by omega)).trans b1_8
    have b2_9 := (g9 m1.length (by omega)).trans b2_8
    have b7_9 := (g9 m6.length (by omega)).trans b7_8
    have b9_9 := box_get hm9
    have e10 : fcall X_laws_toWay [wayV w] m9 = some (wayV w, m9) := f_toWay w _
    obtain ⟨k11, m11, q11, e11, l11, g11, H11⟩ := Has.new (X := X_impl_ReadLine) (F := fun k => lrV c b (w1 k) (w2 k) (w3 k) (w4 k) t n) (m := m9) (mapO3 (fz_way w _) (H8.fz (fz_tl l)) (fz_int 63 _ .i64 x)) I canI hdI rnI
    have H8 := H8.grow g11
    have b1_11 := (g11 0 (by omega)).trans b1_9
    have b2_11 := (g11 m1.length (by omega)).trans b2_9
    have b7_11 := (g11 m6.length (by omega)).trans b7_9
    have b9_11 := (g11 m8.length (by omega)).trans b9_9
    obtain ⟨m12, hm12⟩ : ∃ M, m11 ++ [blk (lrC c b (w1 k11) (w2 k11) (w3 k11) (w4 k11) t n)] = M := ⟨_, rfl⟩
    have l12 := box_len hm12
    have g12 := box_grow hm12
    have H8 := H8.grow g12
    have H11 := H11.grow g12
    have b1_12 := (g12 0 (by omega)).trans b1_11
    have b2_12 := (g12 m1.length (by omega)).trans b2_11
    have b7_12 := (g12 m6.length (by omega)).trans b7_11
    have b9_12 := (g12 m8.length (by omega)).trans b9_11
    have b12_12 := box_get hm12
    have e13 : fcall X_laws_eqLineResult [lrV c b (w1 k11) (w2 k11) (w3 k11) (w4 k11) t n, lrF c b O [] L] m12 = some (.bool true, m12) := f_ask (mapO2 (H11.fz fzI) (fz_lrF c b O L _)) E rfl
    obtain ⟨k14, m14, q14, e14, l14, g14, H14⟩ := n_toLine l hl hb hc m12
    have H8 := H8.grow g14
    have H11 := H11.grow g14
    have b1_14 := (g14 0 (by omega)).trans b1_12
    have b2_14 := (g14 m1.length (by omega)).trans b2_12
    have b7_14 := (g14 m6.length (by omega)).trans b7_12
    have b9_14 := (g14 m8.length (by omega)).trans b9_12
    have b12_14 := (g14 m11.length (by omega)).trans b12_12
    have e15 : fcall X_laws_eqLine [tlW k8 l, tlW k14 l] m14 = some (.bool true, m14) := f_ask (mapO2 (H8.fz (fz_tl l)) (H14.fz (fz_tl l))) (s_eqLine l hsm) rfl
    obtain ⟨m16, e16, l16, g16, H8⟩ := H8.call (X := X_laws_markLine) (rest := [.int .i64 1]) (s_markLineS l hl hb hc hup) rfl rfl (can_mL l hl) (len_mL l)
    have H11 := H11.apart g16 (by omega)
    have b1_16 := (out_range g16 (n := 0) (by omega)).trans b1_14
    have b2_16 := (out_range g16 (n := m1.length) (by omega)).trans b2_14
    have b7_16 := (out_range g16 (n := m6.length) (by omega)).trans b7_14
    have b12_16 := (out_range g16 (n := m11.length) (by omega)).trans b12_14
    have e17 : fcall X_laws_eqLineResult [lrV c b (w1 k11) (w2 k11) (w3 k11) (w4 k11) t n, lrF c b O [] L] m16 = some (.bool true, m16) := f_ask (mapO2 (H11.fz fzI) (fz_lrF c b O L _)) E rfl
    obtain ⟨m18, e18, l18, g18, H11⟩ := H11.call (X := X_laws_markLineResult) (rest := [.int .i64 1]) K rfl rfl canK lenK
    have b1_18 := (out_range g18 (n := 0) (by omega)).trans b1_16
    have b2_18 := (out_range g18 (n := m1.length) (by omega)).trans b2_16
    have b7_18 := (out_range g18 (n := m6.length) (by omega)).trans b7_16
    have b12_18 := (out_range g18 (n := m11.length) (by omega)).trans b12_16
    have e19 : fcall X_laws_heldLineResult [lrV c b (w1 k11) (w2 k11) (w3 k11) (w4 k11) t n, .int .i64 1] m18 = some (.int .i64 qq, m18) := f_ask (mapO2 (H11.fz fzK) (fz_int 63 _ .i64 1)) HH rfl
    have e20 : fcall X_laws_toWay [wayV w] m18 = some (wayV w, m18) := f_toWay w _
    obtain ⟨k21, m21, q21, e21, l21, g21, H21⟩ := n_toLine l hl hb hc m18
    have H11 := H11.grow g21
    have b7_21 := (g21 m6.length (by omega)).trans b7_18
    have b12_21 := (g21 m11.length (by omega)).trans b12_18
    obtain ⟨k22, m22, q22, e22, l22, g22, H22⟩ := Has.new (X := X_impl_ReadLine) (F := fun k => lrV c b (w1 k) (w2 k) (w3 k) (w4 k) t n) (m := m21) (mapO3 (fz_way w _) (H21.fz (fz_tl l)) (fz_int 63 _ .i64 x)) I canI hdI rnI
    have H11 := H11.grow g22
    have b7_22 := (g22 m6.length (by omega)).trans b7_21
    have b12_22 := (g22 m11.length (by omega)).trans b12_21
    obtain ⟨m23, hm23⟩ : ∃ M, m22 ++ [blk (lrC c b (w1 k22) (w2 k22) (w3 k22) (w4 k22) t n)] = M := ⟨_, rfl⟩
    have l23 := box_len hm23
    have g23 := box_grow hm23
    have H11 := H11.grow g23
    have H22 := H22.grow g23
    have b7_23 := (g23 m6.length (by omega)).trans b7_22
    have b12_23 := (g23 m11.length (by omega)).trans b12_22
    have b23_23 := box_get hm23
    have e24 : fcall X_laws_eqLineResult [lrV c b (w1 k22) (w2 k22) (w3 k22) (w4 k22) t n, lrF c b O [] L] m23 = some (.bool true, m23) := f_ask (mapO2 (H22.fz fzI) (fz_lrF c b O L _)) E rfl
    have e25 : fcall X_laws_heldLineResult [lrV c b (w1 k11) (w2 k11) (w3 k11) (w4 k11) t n, .int .i64 1] m23 = some (.int .i64 qq, m23) := f_ask (mapO2 (H11.fz fzK) (fz_int 63 _ .i64 1)) HH rfl
    have u1 : ¬ upSS 1 l.rows + (l.cur.length : Int) < 0 := by omega
    have u2 : ¬ qq < 0 := by omega
    have fI1 := fun k => (fI k).1
    have fI2 := fun k => (fI k).2.1
    have fI3 := fun k => (fI k).2.2.1
    have fI4 := fun k => (fI k).2.2.2
    simp (maxSteps := 2000000) -implicitDefEqProofs [-fcall_eq, -rcall_eq, X_laws_FnExactReadLine, retK_eq, hm1, hm2, b2_2, e3, b1_2, e4, e5, e6, hm7, b2_7, e8, hm9, b1_9, e10, b9_9, e11, hm12, b12_12, b7_12, e13, b9_12, b2_12, e14, e15, b9_14, e16, b12_16, b7_16, e17, e18, b12_18, e19, b1_18, e20, b2_18, e21, e22, hm23, b23_23, b7_23, e24, b12_23, e25, h0, u1, u2, fI1, fI2, fI3, fI4]
end Go.Ab
namespace Go.Ab
open Go.Proofs
set_option linter.unusedSimpArgs false
set_option linter.unusedVariables false
set_option maxHeartbeats 8000000

/-! ## Out of the types -/
theorem typed_i64 {i : Nat} {a : Value} (h : Typed CT i [a]) (hi : (CT.ty i).d = .int .i64) : ∃ n : Int, a = .int .i64 n ∧ wfI .i64 n := typed_int h hi
theorem typed_i64s {s i : Nat} {a : Value} (h : Typed CT s [a]) (hs : (CT.ty s).d = .slice i) (hi : (CT.ty i).d = .int .i64) (hz : (CT.ty i).size = 1) : ∃ l : List Int, a = frS eI6 l ∧ l.length ≤ 9223372036854775807 ∧ ∀ y ∈ l, wfI .i64 y :=
  typed_enc eI6 h hs fun x h1 h2 => by
    rw [hz] at h2
    match x, h2 with
    | [a], _ =>
      obtain ⟨n, rfl, hn⟩ := typed_i64 h1 hi
      exact ⟨n, rfl, hn⟩
end Go.Ab
