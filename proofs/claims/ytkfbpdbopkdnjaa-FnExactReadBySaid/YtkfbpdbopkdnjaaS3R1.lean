/- What the functions of the program answer, for all arguments that the theorems name as conditions. -/
import Derived.Test.YtkfbpdbopkdnjaaS3R0
namespace Go.Ab
set_option linter.unusedSimpArgs false
set_option linter.unusedVariables false
set_option maxHeartbeats 8000000

/-! ## A copy of slices of bytes -/
theorem eU8_hard : eU8.Hard := eI_hard .u8
theorem l_toByteSS (r : List (List Int)) : ∀ (p : List (List Int)) (q n : Nat), r.length < q → n = (p ++ r).length → n < 1100000 → (∀ x ∈ r, x.length < 1000000000) → L_laws_toByteSS 0 q 0 [frS eBS (p ++ r), slO 0 n, .int .i64 p.length] (memS p r.length) = some (slO 0 n, memS (p ++ r) 0) := by
  induction r with
  | nil =>
    intro p q n hq hn hl hb
    obtain ⟨q, rfl⟩ : ∃ n, q = n + 1 := ⟨q - 1, by omega⟩
    have hn' : n = p.length := by simpa using hn
    subst hn'
    have hret := fun pv => ret0_fam eU8 (s := 1) (n := p.length) (c := p.length) (es := p.map elS ++ List.replicate 0 elZ) (pv := pv) (ok_S p 0) (by rw [N_S]; omega)
    rw [List.append_nil]
    show L_laws_toByteSS 0 (q + 1) 0 [frS eBS p, slO 0 p.length, .int .i64 p.length] (memS p 0) = some (slO 0 p.length, memS p 0)
    generalize hM : memS p 0 = M
    have hret : ∀ pv, retK 0 M pv (slO 0 p.length) = some (slO 0 p.length, M) := by rw [← hM]; exact hret
    simp -implicitDefEqProofs [L_laws_toByteSS, hret]
  | cons x r ih =>
    intro p q n hq hn hl hb
    obtain ⟨q, rfl⟩ : ∃ n, q = n + 1 := ⟨q - 1, by omega⟩
    have hn' : n = p.length + (r.length + 1) := by simpa using hn
    have h := ih (p ++ [x]) q n (by simp at hq; omega) (by simpa using hn) hl (fun y hy => hb y (by simp [hy]))
    have hx := ixa_mid eBS (sz := 1) rfl .i64 p x r
    have hw := wrap_next (n := p.length) (by omega)
    have hc := s_toByteS x (hb x (by simp))
    have hz := fun n' o cc => ixa_sl (sz := 1) .i64 (n := n') (o := o) (len := n) (c := cc) (j := (p.length : Int)) (by omega) (by omega)
    simp only [Int.toNat_natCast] at hz
    have hFl : (famM eU8 (p.map elS ++ List.replicate (r.length + 1) elZ)).length = p.length := by rw [famM_len, N_S]
    have hC : (famX 1 (p.map elS ++ List.replicate (r.length + 1) elZ)).length = p.length + (r.length + 1) := by
      rw [famX_app, List.length_append, famX_Slen, famX_zero_rep, List.length_replicate]
    have hF := famM_S p r.length x
    have hlay := lay_S p r.length x
    have hcut := fun pv J => cut0_fam eU8 (s := 1) (n := n) (c := n) (es := (p ++ [x]).map elS ++ List.replicate r.length elZ) (xs := [frS eBS (p ++ x :: r)]) (ys := [.int .i64 ((p.length : Int) + 1)]) (pv := pv) (J := J) rfl rfl (ok_S (p ++ [x]) r.length) (by rw [N_S]; simp; omega)
    have e1 : p ++ [x] ++ r = p ++ x :: r := by simp
    have e2 : ((p ++ [x]).length : Int) = p.length + 1 := by simp
    rw [e1, e2] at h
    simp only [memS, famB] at h hcut ⊢
    simp only [List.singleton_append] at hcut
    rw [List.length_cons]
    generalize famM eU8 (p.map elS ++ List.replicate (r.length + 1) elZ) = F1 at *
    generalize famX 1 (p.map elS ++ List.replicate (r.length + 1) elZ) = C at *
    generalize famM eU8 ((p ++ [x]).map elS ++ List.replicate r.length elZ) = F2 at *
    generalize famX 1 ((p ++ [x]).map elS ++ List.replicate r.length elZ) = C2 at *
    have g1 : (p.length : Int) < p.length + (r.length + 1) := by omega
    have g2 : p.length + 1 ≤ p.length + (r.length + 1) := by omega
    simp (maxSteps := 400000) -implicitDefEqProofs [L_laws_toByteSS, hx, hw, hc, hz, hFl, hC, g1, g2, hlay, hF, hcut, h]
end Go.Ab
