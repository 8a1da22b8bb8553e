/- What the functions of the program answer, for all arguments that the theorems name as conditions. -/
import Derived.Test.YtkfbpdbopkdnjaaS3R3
namespace Go.Ab
set_option linter.unusedSimpArgs false
set_option linter.unusedVariables false
set_option maxHeartbeats 8000000

theorem l_markByteSS (r : List (List Int)) : ∀ (p : List (List Int)) (t : Int) (q n : Nat), r.length < q → n = (p ++ r).length → n < 1100000 → (∀ x ∈ r, x.length < 1000000000) → 0 ≤ t → upSS t r ≤ 100000000000 → L_laws_markByteSS (n + 1) q 0 [slO 0 n, .int .i64 t, .int .i64 p.length] (memA 1 (p ++ r)) = some (.int .i64 (upSS t r), memA 1 (p ++ markSS t r)) := by
  induction r with
  | nil =>
    intro p t q n hq hn hl hb h0 h1
    obtain ⟨q, rfl⟩ : ∃ n, q = n + 1 := ⟨q - 1, by omega⟩
    have hn' : n = p.length := by simpa using hn
    subst hn'
    have hret := fun pv => retN_fam eU8 (k := p.length + 1) (s := 1) (es := p.map elS) (pv := pv) (v := .int .i64 t) rfl (by rw [elS_N]) (ok_A p) (by rw [elS_N]; omega)
    rw [List.append_nil, markSS, List.append_nil, upSS]
    generalize hM : memA 1 p = M
    have hret : ∀ pv, retK (p.length + 1) M pv (.int .i64 t) = some (.int .i64 t, M) := by rw [← hM]; exact hret
    simp -implicitDefEqProofs [L_laws_markByteSS, hret]
  | cons x r ih =>
    intro p t q n hq hn hl hb h0 h1
    obtain ⟨q, rfl⟩ : ∃ n, q = n + 1 := ⟨q - 1, by omega⟩
    have hn' : n = p.length + (r.length + 1) := by simpa using hn
    have hup := upSS_le (t + x.length) r
    rw [upSS] at h1
    have h := ih (p ++ [markB t x.length]) (t + x.length) q n (by simp at hq; omega) (by simpa using hn) hl (fun y hy => hb y (by simp [hy])) (by omega) h1
    have hw := wrap_next (n := p.length) (by omega)
    have hz := fun n' o cc => ixa_sl (sz := 1) .i64 (n := n') (o := o) (len := n) (c := cc) (j := (p.length : Int)) (by omega) (by omega)
    simp only [Int.toNat_natCast] at hz
    have hc := s_markByteS x t (hb x (by simp)) h0 (by omega)
    have hcell := cell_A 1 p x r
    have hr := rcall_one (blk_A 1 p x r) (rest := [.int .i64 t]) rfl (v := .int .i64 (t + x.length)) rfl hc
    rw [set_A 1 p x (markB t x.length) r (by simp)] at hr
    have hcut := fun pv J => cutN_fam eU8 (k := n + 1) (s := 1) (n := n) (c := n) (es := (p ++ markB t x.length :: r).map elS) (xs := []) (ys := [.int .i64 (t + x.length), .int .i64 ((p.length : Int) + 1)]) (pv := pv) (J := J) (by rw [elS_N, hn']; simp) rfl rfl (ok_A _) (by rw [elS_N]; simp; omega)
    simp only [List.nil_append] at hcut
    have e1 : p ++ [markB t x.length] ++ r = p ++ markB t x.length :: r := by simp
    have e2 : ((p ++ [markB t x.length]).length : Int) = p.length + 1 := by simp
    have e3 : p ++ [markB t x.length] ++ markSS (t + x.length) r = p ++ markB t x.length :: markSS (t + x.length) r := by simp
    rw [e1, e2, e3] at h
    rw [upSS, markSS]
    have hM0 : (memA 1 (p ++ x :: r))[0]? = some ⟨famX 1 ((p ++ x :: r).map elS), 1, true, true⟩ := rfl
    have hC : (famX 1 ((p ++ x :: r).map elS)).length = p.length + (r.length + 1) := by rw [famX_Slen]; simp
    have hcut : ∀ pv J, cutK (n + 1) (memA 1 (p ++ markB t x.length :: r)) pv [slO 0 n, .int .i64 (t + x.length), .int .i64 ((p.length : Int) + 1)] J = J [slO 0 n, .int .i64 (t + x.length), .int .i64 ((p.length : Int) + 1)] (memA 1 (p ++ markB t x.length :: r)) := hcut
    rw [Nat.add_comm p.length 1] at hr
    generalize memA 1 (p ++ markB t x.length :: r) = M2 at *
    generalize memA 1 (p ++ x :: r) = M at *
    generalize famX 1 ((p ++ x :: r).map elS) = C at *
    have g1 : (p.length : Int) < n := by omega
    have g2 : p.length + 1 ≤ C.length := by omega
    simp (maxSteps := 400000) -implicitDefEqProofs [-rcall_eq, L_laws_markByteSS, hw, hz, g1, g2, hM0, hcell, hr, hcut, h]
end Go.Ab
