/- What the functions of the program answer, for all arguments that the theorems name as conditions. -/
import Derived.Test.YtkfbpdbopkdnjaaS3R7
namespace Go.Ab
set_option linter.unusedSimpArgs false
set_option linter.unusedVariables false
set_option maxHeartbeats 40000000

theorem l_markEventS (r : List EvT) : ∀ (p : List EvT) (t : Int) (q n : Nat), r.length < q → n = (p ++ r).length → n < 1100000 → (∀ x ∈ r, x.d.length < 1000000000) → 0 ≤ t → upES t r ≤ 100000000000 → L_laws_markEventS (n + 1) q 0 [slO 0 n, .int .i64 t, .int .i64 p.length] (memAE 1 (p ++ r)) = some (.int .i64 (upES t r), memAE 1 (p ++ markES t r)) := by
  induction r with
  | nil =>
    intro p t q n hq hn hl hb h0 h1
    obtain ⟨q, rfl⟩ : ∃ n, q = n + 1 := ⟨q - 1, by omega⟩
    have hn' : n = p.length := by simpa using hn
    subst hn'
    have hret := fun pv => retN_fam eU8 (k := p.length + 1) (s := 13) (es := p.map elE) (pv := pv) (v := .int .i64 t) rfl (by rw [elE_N]) (ok_AE p) (by rw [elE_N]; omega)
    rw [List.append_nil, markES, List.append_nil, upES]
    generalize hM : memAE 1 p = M
    have hret : ∀ pv, retK (p.length + 1) M pv (.int .i64 t) = some (.int .i64 t, M) := by rw [← hM]; exact hret
    simp -implicitDefEqProofs [L_laws_markEventS, hret]
  | cons x r ih =>
    intro p t q n hq hn hl hb h0 h1
    obtain ⟨q, rfl⟩ : ∃ n, q = n + 1 := ⟨q - 1, by omega⟩
    have hn' : n = p.length + (r.length + 1) := by simpa using hn
    have hup := upES_le (upE t x) r
    rw [upES] at h1
    have hxb := hb x (by simp)
    have hub : t + 1 + 1 + 1 + 1 + x.d.length + 1 + 1 + 1 + 1 + 1 + 1 + 1 + 1 ≤ 100000000000 := by unfold upE at *; omega
    have h := ih (p ++ [markE t x]) (upE t x) q n (by simp at hq; omega) (by simpa using hn) hl (fun y hy => hb y (by simp [hy])) (by unfold upE; omega) h1
    have hw := wrap_next (n := p.length) (by omega)
    have hz := fun n' o cc => ixa_sl (sz := 13) .i64 (n := n') (o := o) (len := n) (c := cc) (j := (p.length : Int)) (by omega) (by omega)
    simp only [Int.toNat_natCast] at hz
    have hc := s_markByteS x.d (t + 1 + 1 + 1 + 1) hxb (by omega) (by omega)
    have hFl : (famM eU8 (p.map elE)).length = p.length := by rw [famM_len, elE_N]
    have hLl := famX_Elen 1 p
    have hcut := fun pv J => cutN_fam eU8 (k := n + 1) (s := 13) (n := n) (c := n) (es := (p ++ markE t x :: r).map elE) (xs := []) (ys := [.int .i64 (upE t x), .int .i64 ((p.length : Int) + 1)]) (pv := pv) (J := J) (by rw [elE_N, hn']; simp) rfl rfl (ok_AE _) (by rw [elE_N]; simp; omega)
    simp only [List.nil_append] at hcut
    have e1 : p ++ [markE t x] ++ r = p ++ markE t x :: r := by simp
    have e2 : ((p ++ [markE t x]).length : Int) = p.length + 1 := by simp
    have e3 : p ++ [markE t x] ++ markES (upE t x) r = p ++ markE t x :: markES (upE t x) r := by simp
    rw [e1, e2, e3] at h
    rw [upES, markES]
    have hL1 := cells_E p x r
    have hL2 := cells_E p (markE t x) r
    have hM1 := mem_E p x r
    have hM2 := mem_E p (markE t x) r
    have hd : (markE t x).d = markB (t + 1 + 1 + 1 + 1) x.d.length := rfl
    rw [hd] at hM2
    have hr : ∀ C', rcall X_laws_markByteS [slO (p.length + 1) x.d.length, .int .i64 (t + 1 + 1 + 1 + 1)] (⟨C', 13, true, true⟩ :: (famM eU8 (p.map elE) ++ (ownB eU8 x.d :: famM eU8 (r.map elE)))) = some (.int .i64 (t + 1 + 1 + 1 + 1 + x.d.length), ⟨C', 13, true, true⟩ :: (famM eU8 (p.map elE) ++ (ownB eU8 (markB (t + 1 + 1 + 1 + 1) x.d.length) :: famM eU8 (r.map elE)))) := fun C' => by
      have := rcall_one (m := ⟨C', 13, true, true⟩ :: (famM eU8 (p.map elE) ++ (ownB eU8 x.d :: famM eU8 (r.map elE)))) (a := p.length + 1) (l := x.d) (by rw [List.getElem?_cons_succ, List.getElem?_append_right (by omega), hFl, Nat.sub_self]; rfl) (rest := [.int .i64 (t + 1 + 1 + 1 + 1)]) rfl (v := .int .i64 (t + 1 + 1 + 1 + 1 + x.d.length)) rfl hc
      rw [this]
      rw [List.set_cons_succ, List.set_append_right _ _ (by omega), hFl, Nat.sub_self]
      rfl
    have hcut : ∀ pv J, cutK (n + 1) (memAE 1 (p ++ markE t x :: r)) pv [slO 0 n, .int .i64 (upE t x), .int .i64 ((p.length : Int) + 1)] J = J [slO 0 n, .int .i64 (upE t x), .int .i64 ((p.length : Int) + 1)] (memAE 1 (p ++ markE t x :: r)) := hcut
    simp only [memAE, famB] at h hcut ⊢
    rw [hL2, hM2] at h hcut
    rw [hL1, hM1]
    have hRR : (famX 1 (p.map elE) ++ (evC (p.length + 1) x ++ famX (p.length + 2) (r.map elE))).length = (p.length + (r.length + 1)) * 13 := by
      rw [← hL1, famX_Elen]; simp
    generalize famM eU8 (p.map elE) = F1 at *
    generalize famM eU8 (r.map elE) = F2 at *
    generalize famX 1 (p.map elE) = L at *
    generalize famX (p.length + 2) (r.map elE) = R at *
    have g1 : (p.length : Int) < n := by omega
    simp only [evC, EvT.pre, EvT.post, List.cons_append, List.nil_append, markE, markB_len] at h hcut hRR ⊢
    unfold upE at *
    have lx := fun R j v => lay_ix L R (p.length * 13) j v hLl
    have lx0 := fun R v => lay_ix L R (p.length * 13) 0 v hLl
    have gx := fun R j => get_ix L R (p.length * 13) j hLl
    have gx0 := fun R => get_ix L R (p.length * 13) 0 hLl
    simp only [Nat.add_zero] at lx0 gx0
    have hll : L.length + (R.length + 13) = (p.length + (r.length + 1)) * 13 := by simp at hRR; omega
    have u1 : IntKind.i64.wrap (t + 1) = t + 1 := wrap_i64 (by omega) (by omega)
    have u2 : IntKind.i64.wrap (t + 1 + 1) = t + 1 + 1 := wrap_i64 (by omega) (by omega)
    have u3 : IntKind.i64.wrap (t + 1 + 1 + 1) = t + 1 + 1 + 1 := wrap_i64 (by omega) (by omega)
    have u4 : IntKind.i64.wrap (t + 1 + 1 + 1 + 1) = t + 1 + 1 + 1 + 1 := wrap_i64 (by omega) (by omega)
    generalize hT : t + 1 + 1 + 1 + 1 + (x.d.length : Int) = T at *
    have v1 : IntKind.i64.wrap (T + 1) = T + 1 := wrap_i64 (by omega) (by omega)
    have v2 : IntKind.i64.wrap (T + 1 + 1) = T + 1 + 1 := wrap_i64 (by omega) (by omega)
    have v3 : IntKind.i64.wrap (T + 1 + 1 + 1) = T + 1 + 1 + 1 := wrap_i64 (by omega) (by omega)
    have v4 : IntKind.i64.wrap (T + 1 + 1 + 1 + 1) = T + 1 + 1 + 1 + 1 := wrap_i64 (by omega) (by omega)
    have v5 : IntKind.i64.wrap (T + 1 + 1 + 1 + 1 + 1) = T + 1 + 1 + 1 + 1 + 1 := wrap_i64 (by omega) (by omega)
    have v6 : IntKind.i64.wrap (T + 1 + 1 + 1 + 1 + 1 + 1) = T + 1 + 1 + 1 + 1 + 1 + 1 := wrap_i64 (by omega) (by omega)
    have v7 : IntKind.i64.wrap (T + 1 + 1 + 1 + 1 + 1 + 1 + 1) = T + 1 + 1 + 1 + 1 + 1 + 1 + 1 := wrap_i64 (by omega) (by omega)
    have v8 : IntKind.i64.wrap (T + 1 + 1 + 1 + 1 + 1 + 1 + 1 + 1) = T + 1 + 1 + 1 + 1 + 1 + 1 + 1 + 1 := wrap_i64 (by omega) (by omega)
    have a0 : ∀ j, j < 13 → p.length * 13 + j + 1 ≤ L.length + (R.length + 13) := by intro j hj; omega
    have b0 := a0 0 (by omega)
    have b1 := a0 1 (by omega)
    have b2 := a0 2 (by omega)
    have b3 := a0 3 (by omega)
    have b4 := a0 4 (by omega)
    have b5 := a0 5 (by omega)
    have b6 := a0 6 (by omega)
    have b7 := a0 7 (by omega)
    have b8 := a0 8 (by omega)
    have b9 := a0 9 (by omega)
    have b10 := a0 10 (by omega)
    have b11 := a0 11 (by omega)
    have b12 := a0 12 (by omega)
    simp only [Nat.add_zero, Nat.add_assoc, Nat.reduceAdd] at b0 b1 b2 b3 b4 b5 b6 b7 b8 b9 b10 b11 b12
    have q1 : p.length * 13 + 6 + 1 = p.length * 13 + 7 := by omega
    have q2 : p.length * 13 + 6 + 2 = p.length * 13 + 8 := by omega
    have q3 : p.length * 13 + 6 + 3 = p.length * 13 + 9 := by omega
    have q4 : p.length * 13 + 6 + 4 = p.length * 13 + 10 := by omega
    have q5 : p.length * 13 + 6 + 5 = p.length * 13 + 11 := by omega
    have q6 : p.length * 13 + 6 + 6 = p.length * 13 + 12 := by omega
    simp (maxSteps := 4000000) -implicitDefEqProofs [-rcall_eq, L_laws_markEventS, q1, q2, q3, q4, q5, q6, hw, hz, g1, lx, lx0, gx, gx0, u1, u2, u3, u4, v1, v2, v3, v4, v5, v6, v7, v8, b0, b1, b2, b3, b4, b5, b6, b7, b8, b9, b10, b11, b12, hr, hcut, h]
end Go.Ab
