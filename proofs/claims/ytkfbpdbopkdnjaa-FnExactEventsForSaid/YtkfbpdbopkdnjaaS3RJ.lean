/- What the functions of the program answer, for all arguments that the theorems name as conditions. -/
import Derived.Test.YtkfbpdbopkdnjaaS3RI
namespace Go.Ab
set_option linter.unusedSimpArgs false
set_option linter.unusedVariables false
set_option maxHeartbeats 40000000

/-! ## Marks in events that were cloned -/
theorem rcall_scal {X : List Value → Mem → Option VM} {m : Mem} {args : List Value} {v : Value} (ha : args.all scal = true) (hv : scal v = true) (hX : X args [] = some (v, [])) : rcall X args m = some (v, m) := by
  have h1 := nm_scal (k := 7) ha
  have h2 := rn_scal (j := 7) (π := ixOf []) (l := args) (r := []) ha
  rw [List.append_nil] at h2
  have h3 : mapO (rnV 8 inert (ixOf [])) args = some args := by rw [h2]; simp [mapO]
  rw [rcall_eq, h1]
  simp only [reach_nil, bo_some, h3, locM_nil, hX, List.length_nil, Nat.le_refl, if_true, rnV_scal hv]
  simp [mapB]
theorem s_markByteS_ro (t : Int) : X_laws_markByteS [roS 0 [], .int .i64 t] [] = some (.int .i64 t, []) := by
  obtain ⟨q, hq⟩ : ∃ q, QQ = q + 1 := ⟨QQ - 1, by unfold QQ; omega⟩
  simp -implicitDefEqProofs [X_laws_markByteS, L_laws_markByteS, retK_eq, cutK_eq, hq]
theorem famX_C (k : Nat) (e : EvT) (r : List EvT) : famX k ((e :: r).map elC) = (e.pre ++ (clV e k :: e.post)) ++ famX (k + (if e.d = [] then 0 else 1)) (r.map elC) := by
  rw [List.map_cons, famX, elC_n, ← elC_cells]
  simp
theorem famM_C (e : EvT) (r : List EvT) : famM eU8 ((e :: r).map elC) = (if e.d = [] then [] else [ownB eU8 e.d]) ++ famM eU8 (r.map elC) := by
  rw [List.map_cons, famM]
  congr 1
  unfold elC
  split
  · rfl
  · show [ownB eU8 ([] ++ (e.d ++ []))] = _
    simp
theorem famN_Ccons (e : EvT) (r : List EvT) : famN ((e :: r).map elC) = (if e.d = [] then 0 else 1) + famN (r.map elC) := by
  rw [List.map_cons, famN, elC_n]
theorem cells_C (p : List EvT) (x : EvT) (r : List EvT) : famX 1 ((p ++ x :: r).map elC) = famX 1 (p.map elC) ++ ((x.pre ++ (clV x (famN (p.map elC) + 1) :: x.post)) ++ famX (famN (p.map elC) + 1 + (if x.d = [] then 0 else 1)) (r.map elC)) := by
  rw [List.map_append, famX_app, famX_C, Nat.add_comm 1]
theorem mem_C (p : List EvT) (x : EvT) (r : List EvT) : famM eU8 ((p ++ x :: r).map elC) = famM eU8 (p.map elC) ++ ((if x.d = [] then [] else [ownB eU8 x.d]) ++ famM eU8 (r.map elC)) := by
  rw [List.map_append, famM_app, famM_C]
theorem markE_d (t : Int) (x : EvT) : (markE t x).d = [] ↔ x.d = [] := by
  show markB _ x.d.length = [] ↔ _
  constructor
  · intro h
    have := congrArg List.length h
    rw [markB_len] at this
    exact List.eq_nil_of_length_eq_zero this
  · intro h
    rw [h]
    rfl
theorem famN_mark (p : List EvT) (x : EvT) (t : Int) (r : List EvT) : famN ((p ++ markE t x :: r).map elC) = famN ((p ++ x :: r).map elC) := by
  rw [List.map_append, famN_app, famN_Ccons, List.map_append, famN_app, famN_Ccons]
  by_cases h : x.d = []
  · rw [if_pos h, if_pos ((markE_d t x).2 h)]
  · rw [if_neg h, if_neg (fun c => h ((markE_d t x).1 c))]
theorem famN_marks (t : Int) (l : List EvT) : famN ((markES t l).map elC) = famN (l.map elC) := by
  induction l generalizing t with
  | nil => rfl
  | cons x r ih =>
    rw [markES, famN_Ccons, famN_Ccons, ih]
    by_cases h : x.d = []
    · rw [if_pos h, if_pos ((markE_d t x).2 h)]
    · rw [if_neg h, if_neg (fun c => h ((markE_d t x).1 c))]
theorem l_markEventC (r : List EvT) : ∀ (p : List EvT) (t : Int) (q n N : Nat), r.length < q → n = (p ++ r).length → N = famN ((p ++ r).map elC) → n < 1100000 → (∀ x ∈ r, x.d.length < 1000000000) → 0 ≤ t → upES t r ≤ 100000000000 → L_laws_markEventS (N + 1) q 0 [slO 0 n, .int .i64 t, .int .i64 p.length] (memC 1 (p ++ r)) = some (.int .i64 (upES t r), memC 1 (p ++ markES t r)) := by
  induction r with
  | nil =>
    intro p t q n N hq hn hN hl hb h0 h1
    obtain ⟨q, rfl⟩ : ∃ n, q = n + 1 := ⟨q - 1, by omega⟩
    have hn' : n = p.length := by simpa using hn
    subst hn'
    rw [List.append_nil] at hN
    have hle := famN_C p
    have hret := fun pv => retN_fam eU8 (k := N + 1) (s := 13) (es := p.map elC) (pv := pv) (v := .int .i64 t) rfl (by rw [hN]) (ok_C p) (by omega)
    rw [List.append_nil, markES, List.append_nil, upES]
    generalize hM : memC 1 p = M
    have hret : ∀ pv, retK (N + 1) M pv (.int .i64 t) = some (.int .i64 t, M) := by rw [← hM]; exact hret
    simp -implicitDefEqProofs [L_laws_markEventS, hret]
  | cons x r ih =>
    intro p t q n N hq hn hN hl hb h0 h1
    obtain ⟨q, rfl⟩ : ∃ n, q = n + 1 := ⟨q - 1, by omega⟩
    have hn' : n = p.length + (r.length + 1) := by simpa using hn
    have hup := upES_le (upE t x) r
    rw [upES] at h1
    have hxb := hb x (by simp)
    have hub : t + 1 + 1 + 1 + 1 + x.d.length + 1 + 1 + 1 + 1 + 1 + 1 + 1 + 1 ≤ 100000000000 := by unfold upE at *; omega
    have hle := famN_C (p ++ x :: r)
    have hNm := famN_mark p x t r
    have h := ih (p ++ [markE t x]) (upE t x) q n N (by simp at hq; omega) (by simpa using hn) (by rw [hN, ← hNm]; simp) hl (fun y hy => hb y (by simp [hy])) (by unfold upE; omega) h1
    have hw := wrap_next (n := p.length) (by omega)
    have hz := fun n' o cc => ixa_sl (sz := 13) .i64 (n := n') (o := o) (len := n) (c := cc) (j := (p.length : Int)) (by omega) (by omega)
    simp only [Int.toNat_natCast] at hz
    have hc := s_markByteS x.d (t + 1 + 1 + 1 + 1) hxb (by omega) (by omega)
    have hFl : (famM eU8 (p.map elC)).length = famN (p.map elC) := famM_len eU8 _
    have hLl := famX_Clen 1 p
    have hcut := fun pv J => cutN_fam eU8 (k := N + 1) (s := 13) (n := n) (c := n) (es := (p ++ markE t x :: r).map elC) (xs := []) (ys := [.int .i64 (upE t x), .int .i64 ((p.length : Int) + 1)]) (pv := pv) (J := J) (by rw [hNm, hN]) rfl rfl (ok_C _) (by rw [hNm]; have := hle; rw [← hn] at this; omega)
    simp only [List.nil_append] at hcut
    have e1 : p ++ [markE t x] ++ r = p ++ markE t x :: r := by simp
    have e2 : ((p ++ [markE t x]).length : Int) = p.length + 1 := by simp
    have e3 : p ++ [markE t x] ++ markES (upE t x) r = p ++ markE t x :: markES (upE t x) r := by simp
    rw [e1, e2, e3] at h
    rw [upES, markES]
    have hL1 := cells_C p x r
    have hL2 := cells_C p (markE t x) r
    have hM1 := mem_C p x r
    have hM2 := mem_C p (markE t x) r
    have hcut : ∀ pv J, cutK (N + 1) (memC 1 (p ++ markE t x :: r)) pv [slO 0 n, .int .i64 (upE t x), .int .i64 ((p.length : Int) + 1)] J = J [slO 0 n, .int .i64 (upE t x), .int .i64 ((p.length : Int) + 1)] (memC 1 (p ++ markE t x :: r)) := hcut
    generalize hRES : some (Value.int .i64 (upES (upE t x) r), memC 1 (p ++ markE t x :: markES (upE t x) r)) = RES at h ⊢
    simp only [memC, famB] at h hcut ⊢
    rw [hL2, hM2] at h hcut
    rw [hL1, hM1]
    have hRR : (famX 1 (p.map elC) ++ ((x.pre ++ (clV x (famN (p.map elC) + 1) :: x.post)) ++ famX (famN (p.map elC) + 1 + (if x.d = [] then 0 else 1)) (r.map elC))).length = (p.length + (r.length + 1)) * 13 := by
      rw [← hL1, famX_Clen]; simp
    generalize famM eU8 (p.map elC) = F1 at *
    generalize famM eU8 (r.map elC) = F2 at *
    generalize famX 1 (p.map elC) = L at *
    generalize famN (p.map elC) = NP at *
    by_cases hd : x.d = []
    · have hmd : (markE t x).d = [] := (markE_d t x).2 hd
      simp only [clV, hd, hmd, if_true] at h hcut hRR ⊢
      have hr : ∀ m, rcall X_laws_markByteS [roS 0 [], .int .i64 (t + 1 + 1 + 1 + 1)] m = some (.int .i64 (t + 1 + 1 + 1 + 1), m) := fun m => rcall_scal rfl rfl (s_markByteS_ro _)
      generalize famX (NP + 1 + 0) (r.map elC) = R at *
      have g1 : (p.length : Int) < n := by omega
      simp only [EvT.pre, EvT.post, List.cons_append, List.nil_append, List.append_assoc, markE, markB_len] at h hcut hRR ⊢
      unfold upE at *
      have lx := fun R j v => lay_ix L R (p.length * 13) j v hLl
      have lx0 := fun R v => lay_ix L R (p.length * 13) 0 v hLl
      have gx := fun R j => get_ix L R (p.length * 13) j hLl
      have gx0 := fun R => get_ix L R (p.length * 13) 0 hLl
      simp only [Nat.add_zero] at lx0 gx0
      have hll : L.length + (R.length + 13) = (p.length + (r.length + 1)) * 13 := by simp at hRR; omega
      have u1 : IntKind.i64.wrap (t + 1) = t + 1 := wrap_i64 (by omega) (by omega)
      have u2 : IntKind.i64.wrap (t + 1 + 1) = t + 1 + 1 := wrap_i64 (by omega) (by omega)
      have u3 : IntKind.i64.wrap (t + 1 + 1 + 1) = t + 1 + 1 + 1 := wrap_i64 (by omega) (by omega)
      have u4 : IntKind.i64.wrap (t + 1 + 1 + 1 + 1) = t + 1 + 1 + 1 + 1 := wrap_i64 (by omega) (by omega)
      simp only [hd, List.length_nil, Int.natCast_zero, Int.add_zero] at h hcut hub
      have v1 : IntKind.i64.wrap (t + 1 + 1 + 1 + 1 + 1) = t + 1 + 1 + 1 + 1 + 1 := wrap_i64 (by omega) (by omega)
      have v2 : IntKind.i64.wrap (t + 1 + 1 + 1 + 1 + 1 + 1) = t + 1 + 1 + 1 + 1 + 1 + 1 := wrap_i64 (by omega) (by omega)
      have v3 : IntKind.i64.wrap (t + 1 + 1 + 1 + 1 + 1 + 1 + 1) = t + 1 + 1 + 1 + 1 + 1 + 1 + 1 := wrap_i64 (by omega) (by omega)
      have v4 : IntKind.i64.wrap (t + 1 + 1 + 1 + 1 + 1 + 1 + 1 + 1) = t + 1 + 1 + 1 + 1 + 1 + 1 + 1 + 1 := wrap_i64 (by omega) (by omega)
      have v5 : IntKind.i64.wrap (t + 1 + 1 + 1 + 1 + 1 + 1 + 1 + 1 + 1) = t + 1 + 1 + 1 + 1 + 1 + 1 + 1 + 1 + 1 := wrap_i64 (by omega) (by omega)
      have v6 : IntKind.i64.wrap (t + 1 + 1 + 1 + 1 + 1 + 1 + 1 + 1 + 1 + 1) = t + 1 + 1 + 1 + 1 + 1 + 1 + 1 + 1 + 1 + 1 := wrap_i64 (by omega) (by omega)
      have v7 : IntKind.i64.wrap (t + 1 + 1 + 1 + 1 + 1 + 1 + 1 + 1 + 1 + 1 + 1) = t + 1 + 1 + 1 + 1 + 1 + 1 + 1 + 1 + 1 + 1 + 1 := wrap_i64 (by omega) (by omega)
      have v8 : IntKind.i64.wrap (t + 1 + 1 + 1 + 1 + 1 + 1 + 1 + 1 + 1 + 1 + 1 + 1) = t + 1 + 1 + 1 + 1 + 1 + 1 + 1 + 1 + 1 + 1 + 1 + 1 := wrap_i64 (by omega) (by omega)
      have a0 : ∀ j, j < 13 → p.length * 13 + j + 1 ≤ L.length + (R.length + 13) := by intro j hj; omega
      have b0 := a0 0 (by omega)
      have b1 := a0 1 (by omega)
      have b2 := a0 2 (by omega)
      have b3 := a0 3 (by omega)
      have b4 := a0 4 (by omega)
      have b5 := a0 5 (by omega)
      have b6 := a0 6 (by omega)
      have b7 := a0 7 (by omega)
      have b8 := a0 8 (by omega)
      have b9 := a0 9 (by omega)
      have b10 := a0 10 (by omega)
      have b11 := a0 11 (by omega)
      have b12 := a0 12 (by omega)
      simp only [Nat.add_zero, Nat.add_assoc, Nat.reduceAdd] at b0 b1 b2 b3 b4 b5 b6 b7 b8 b9 b10 b11 b12
      have q1 : p.length * 13 + 6 + 1 = p.length * 13 + 7 := by omega
      have q2 : p.length * 13 + 6 + 2 = p.length * 13 + 8 := by omega
      have q3 : p.length * 13 + 6 + 3 = p.length * 13 + 9 := by omega
      have q4 : p.length * 13 + 6 + 4 = p.length * 13 + 10 := by omega
      have q5 : p.length * 13 + 6 + 5 = p.length * 13 + 11 := by omega
      have q6 : p.length * 13 + 6 + 6 = p.length * 13 + 12 := by omega
      simp (maxSteps := 4000000) -implicitDefEqProofs [-rcall_eq, L_laws_markEventS, q1, q2, q3, q4, q5, q6, hw, hz, g1, lx, lx0, gx, gx0, u1, u2, u3, u4, v1, v2, v3, v4, v5, v6, v7, v8, b0, b1, b2, b3, b4, b5, b6, b7, b8, b9, b10, b11, b12, hr, hcut, h]
    · have hmd : ¬ (markE t x).d = [] := fun c => hd ((markE_d t x).1 c)
      simp only [clV, hd, hmd, if_false] at h hcut hRR ⊢
      have hr : ∀ C', rcall X_laws_markByteS [slO (NP + 1) x.d.length, .int .i64 (t + 1 + 1 + 1 + 1)] (⟨C', 13, true, true⟩ :: (F1 ++ (ownB eU8 x.d :: F2))) = some (.int .i64 (t + 1 + 1 + 1 + 1 + x.d.length), ⟨C', 13, true, true⟩ :: (F1 ++ (ownB eU8 (markB (t + 1 + 1 + 1 + 1) x.d.length) :: F2))) := fun C' => by
        have := rcall_one (m := ⟨C', 13, true, true⟩ :: (F1 ++ (ownB eU8 x.d :: F2))) (a := NP + 1) (l := x.d) (by rw [List.getElem?_cons_succ, List.getElem?_append_right (by omega), hFl, Nat.sub_self]; rfl) (rest := [.int .i64 (t + 1 + 1 + 1 + 1)]) rfl (v := .int .i64 (t + 1 + 1 + 1 + 1 + x.d.length)) rfl hc
        rw [this]
        rw [List.set_cons_succ, List.set_append_right _ _ (by omega), hFl, Nat.sub_self]
        rfl
      generalize famX (NP + 1 + 1) (r.map elC) = R at *
      have g1 : (p.length : Int) < n := by omega
      simp only [EvT.pre, EvT.post, List.cons_append, List.nil_append, List.append_assoc, markE, markB_len] at h hcut hRR ⊢
      unfold upE at *
      have lx := fun R j v => lay_ix L R (p.length * 13) j v hLl
      have lx0 := fun R v => lay_ix L R (p.length * 13) 0 v hLl
      have gx := fun R j => get_ix L R (p.length * 13) j hLl
      have gx0 := fun R => get_ix L R (p.length * 13) 0 hLl
      simp only [Nat.add_zero] at lx0 gx0
      have hll : L.length + (R.length + 13) = (p.length + (r.length + 1)) * 13 := by simp at hRR; omega
      have u1 : IntKind.i64.wrap (t + 1) = t + 1 := wrap_i64 (by omega) (by omega)
      have u2 : IntKind.i64.wrap (t + 1 + 1) = t + 1 + 1 := wrap_i64 (by omega) (by omega)
      have u3 : IntKind.i64.wrap (t + 1 + 1 + 1) = t + 1 + 1 + 1 := wrap_i64 (by omega) (by omega)
      have u4 : IntKind.i64.wrap (t + 1 + 1 + 1 + 1) = t + 1 + 1 + 1 + 1 := wrap_i64 (by omega) (by omega)
      generalize hT : t + 1 + 1 + 1 + 1 + (x.d.length : Int) = T at *
      have v1 : IntKind.i64.wrap (T + 1) = T + 1 := wrap_i64 (by omega) (by omega)
      have v2 : IntKind.i64.wrap (T + 1 + 1) = T + 1 + 1 := wrap_i64 (by omega) (by omega)
      have v3 : IntKind.i64.wrap (T + 1 + 1 + 1) = T + 1 + 1 + 1 := wrap_i64 (by omega) (by omega)
      have v4 : IntKind.i64.wrap (T + 1 + 1 + 1 + 1) = T + 1 + 1 + 1 + 1 := wrap_i64 (by omega) (by omega)
      have v5 : IntKind.i64.wrap (T + 1 + 1 + 1 + 1 + 1) = T + 1 + 1 + 1 + 1 + 1 := wrap_i64 (by omega) (by omega)
      have v6 : IntKind.i64.wrap (T + 1 + 1 + 1 + 1 + 1 + 1) = T + 1 + 1 + 1 + 1 + 1 + 1 := wrap_i64 (by omega) (by omega)
      have v7 : IntKind.i64.wrap (T + 1 + 1 + 1 + 1 + 1 + 1 + 1) = T + 1 + 1 + 1 + 1 + 1 + 1 + 1 := wrap_i64 (by omega) (by omega)
      have v8 : IntKind.i64.wrap (T + 1 + 1 + 1 + 1 + 1 + 1 + 1 + 1) = T + 1 + 1 + 1 + 1 + 1 + 1 + 1 + 1 := wrap_i64 (by omega) (by omega)
      have a0 : ∀ j, j < 13 → p.length * 13 + j + 1 ≤ L.length + (R.length + 13) := by intro j hj; omega
      have b0 := a0 0 (by omega)
      have b1 := a0 1 (by omega)
      have b2 := a0 2 (by omega)
      have b3 := a0 3 (by omega)
      have b4 := a0 4 (by omega)
      have b5 := a0 5 (by omega)
      have b6 := a0 6 (by omega)
      have b7 := a0 7 (by omega)
      have b8 := a0 8 (by omega)
      have b9 := a0 9 (by omega)
      have b10 := a0 10 (by omega)
      have b11 := a0 11 (by omega)
      have b12 := a0 12 (by omega)
      simp only [Nat.add_zero, Nat.add_assoc, Nat.reduceAdd] at b0 b1 b2 b3 b4 b5 b6 b7 b8 b9 b10 b11 b12
      have q1 : p.length * 13 + 6 + 1 = p.length * 13 + 7 := by omega
      have q2 : p.length * 13 + 6 + 2 = p.length * 13 + 8 := by omega
      have q3 : p.length * 13 + 6 + 3 = p.length * 13 + 9 := by omega
      have q4 : p.length * 13 + 6 + 4 = p.length * 13 + 10 := by omega
      have q5 : p.length * 13 + 6 + 5 = p.length * 13 + 11 := by omega
      have q6 : p.length * 13 + 6 + 6 = p.length * 13 + 12 := by omega
      simp (maxSteps := 4000000) -implicitDefEqProofs [-rcall_eq, L_laws_markEventS, q1, q2, q3, q4, q5, q6, hw, hz, g1, lx, lx0, gx, gx0, u1, u2, u3, u4, v1, v2, v3, v4, v5, v6, v7, v8, b0, b1, b2, b3, b4, b5, b6, b7, b8, b9, b10, b11, b12, hr, hcut, h]
end Go.Ab
