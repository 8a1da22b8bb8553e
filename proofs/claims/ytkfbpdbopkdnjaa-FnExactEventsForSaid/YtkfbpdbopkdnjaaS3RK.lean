/- What the functions of the program answer, for all arguments that the theorems name as conditions. -/
import Derived.Test.YtkfbpdbopkdnjaaS3RJ
namespace Go.Ab
set_option linter.unusedSimpArgs false
set_option linter.unusedVariables false
set_option maxHeartbeats 4000000

/-! ## Results with events -/
theorem memC_len (k : Nat) (l : List EvT) : (memC k l).length = famN (l.map elC) + 1 := by
  show (famM eU8 (l.map elC)).length + 1 = _
  rw [famM_len]
theorem s_markEventC (l : List EvT) (t : Int) (hl : l.length < 1100000) (hb : ∀ x ∈ l, x.d.length < 1000000000) (h0 : 0 ≤ t) (h1 : upES t l ≤ 100000000000) : X_laws_markEventS [slO 0 l.length, .int .i64 t] (memC 1 l) = some (.int .i64 (upES t l), memC 1 (markES t l)) := by
  have h := l_markEventC l [] t QQ l.length (famN (l.map elC)) (by unfold QQ; omega) rfl rfl hl hb h0 h1
  have hle := famN_C l
  have hcut := fun pv J => cutN_fam eU8 (k := famN (l.map elC) + 1) (s := 13) (n := l.length) (c := l.length) (es := l.map elC) (xs := []) (ys := [.int .i64 t, .int .i64 0]) (pv := pv) (J := J) rfl rfl rfl (ok_C _) (by omega)
  simp only [List.nil_append, List.length_nil, Int.natCast_zero] at h hcut
  have hcut : ∀ pv J, cutK (famN (l.map elC) + 1) (memC 1 l) pv [slO 0 l.length, .int .i64 t, .int .i64 0] J = J [slO 0 l.length, .int .i64 t, .int .i64 0] (memC 1 l) := hcut
  have hM := memC_len 1 l
  generalize memC 1 l = M at *
  simp (maxSteps := 400000) -implicitDefEqProofs [X_laws_markEventS, hM, hcut, h]
abbrev erV (c : Int) (l : List EvT) : Value := .agg #[.int .i64 c, frS eEv l]
abbrev erO (c : Int) (k n : Nat) : Value := .agg #[.int .i64 c, slO k n]
theorem s_markEventsResult (c : Int) (l : List EvT) (hl : l.length < 1100000) (hb : ∀ x ∈ l, x.d.length < 1000000000) (h1 : upES 1 l ≤ 100000000000) : X_laws_markEventsResult [erO c 0 l.length, .int .i64 1] (memC 1 l) = some (.int .i64 (upES 1 l), memC 1 (markES 1 l)) := by
  have hle := famN_C l
  have h := rcall_fam eU8 [] [blk [.int .i64 c, slO 0 l.length]] 13 l.length l.length (l.map elC) ((markES 1 l).map elC) [.int .i64 1] (.int .i64 (upES 1 l)) rfl rfl (ok_C l) (ok_C _) (famN_marks 1 l) (by omega) (s_markEventC l 1 hl hb (by omega) h1)
  have hret := fun pv => retN_fam eU8 (k := famN (l.map elC) + 1) (s := 13) (es := (markES 1 l).map elC) (pv := pv) (v := .int .i64 (upES 1 l)) rfl (by rw [famN_marks]) (ok_C _) (by rw [famN_marks]; omega)
  have hret := fun pv => retK_app [blk [.int .i64 c, slO 0 l.length]] (by rw [List.length_cons, famM_len, famN_marks]; exact Nat.le_refl _) (hret pv)
  simp only [List.nil_append, List.length_nil, Nat.zero_add] at h
  have hM := memC_len 1 l
  have h : rcall X_laws_markEventS [slO 0 l.length, .int .i64 1] (memC 1 l ++ [blk [.int .i64 c, slO 0 l.length]]) = some (.int .i64 (upES 1 l), memC 1 (markES 1 l) ++ [blk [.int .i64 c, slO 0 l.length]]) := h
  have hret : ∀ pv, retK (famN (l.map elC) + 1) (memC 1 (markES 1 l) ++ [blk [.int .i64 c, slO 0 l.length]]) pv (.int .i64 (upES 1 l)) = some (.int .i64 (upES 1 l), memC 1 (markES 1 l)) := hret
  generalize memC 1 l = M at *
  generalize memC 1 (markES 1 l) = M2 at *
  simp (maxSteps := 400000) -implicitDefEqProofs [-rcall_eq, X_laws_markEventsResult, hM, h, hret]
theorem l_heldEventS (l : List EvT) : ∀ (p : List EvT) (t : Int) (q : Nat), l.length < q → (p ++ l).length < 1100000 → (∀ x ∈ l, x.d.length < 1000000000) → 0 ≤ t → upES t l ≤ 100000000000 → L_laws_heldEventS 0 q 0 [frS eEv (p ++ markES t l), .int .i64 t, .int .i64 p.length] [] = some (.int .i64 (upES t l), []) := by
  induction l with
  | nil =>
    intro p t q hq hn hb h0 h1
    obtain ⟨q, rfl⟩ : ∃ n, q = n + 1 := ⟨q - 1, by omega⟩
    simp -implicitDefEqProofs [L_laws_heldEventS, retK_eq, markES, upES]
  | cons x r ih =>
    intro p t q hq hn hb h0 h1
    obtain ⟨q, rfl⟩ : ∃ n, q = n + 1 := ⟨q - 1, by omega⟩
    have hup := upES_le (upE t x) r
    rw [upES] at h1
    have hub : t + 1 + 1 + 1 + 1 + x.d.length + 1 + 1 + 1 + 1 + 1 + 1 + 1 + 1 ≤ 100000000000 := by unfold upE at *; omega
    have h := ih (p ++ [markE t x]) (upE t x) q (by simp at hq; omega) (by simpa using hn) (fun y hy => hb y (by simp [hy])) (by unfold upE; omega) h1
    have e1 : p ++ [markE t x] ++ markES (upE t x) r = p ++ markE t x :: markES (upE t x) r := by simp
    have e2 : ((p ++ [markE t x]).length : Int) = p.length + 1 := by simp
    rw [e1, e2] at h
    rw [upES, markES]
    have hx := ixa_mid eEv (sz := 13) rfl .i64 p (markE t x) (markES (upE t x) r)
    have hw := wrap_next (n := p.length) (by simp at hn; omega)
    have hc := s_heldByteS x.d.length (t + 1 + 1 + 1 + 1) (hb x (by simp)) (by omega) (by omega)
    have g1 : (p.length : Int) < ((p ++ markE t x :: markES (upE t x) r).length : Int) := by simp
    have u1 : IntKind.i64.wrap (t + 1) = t + 1 := wrap_i64 (by omega) (by omega)
    have u2 : IntKind.i64.wrap (t + 1 + 1) = t + 1 + 1 := wrap_i64 (by omega) (by omega)
    have u3 : IntKind.i64.wrap (t + 1 + 1 + 1) = t + 1 + 1 + 1 := wrap_i64 (by omega) (by omega)
    have u4 : IntKind.i64.wrap (t + 1 + 1 + 1 + 1) = t + 1 + 1 + 1 + 1 := wrap_i64 (by omega) (by omega)
    unfold upE at *
    have eM : eEv.f (markE t x) = [.int .i64 t, .int .i64 (t + 1), .int .i64 (t + 1 + 1), .bool ((t + 1 + 1 + 1).tmod 3 == 0), frS eU8 (markB (t + 1 + 1 + 1 + 1) x.d.length), .int .i64 (t + 1 + 1 + 1 + 1 + x.d.length), .int .i64 (t + 1 + 1 + 1 + 1 + x.d.length + 1), .int .i64 (t + 1 + 1 + 1 + 1 + x.d.length + 1 + 1), .int .i64 (t + 1 + 1 + 1 + 1 + x.d.length + 1 + 1 + 1), .int .i64 (t + 1 + 1 + 1 + 1 + x.d.length + 1 + 1 + 1 + 1), .int .i64 (t + 1 + 1 + 1 + 1 + x.d.length + 1 + 1 + 1 + 1 + 1), .int .i64 (t + 1 + 1 + 1 + 1 + x.d.length + 1 + 1 + 1 + 1 + 1 + 1), .int .i64 (t + 1 + 1 + 1 + 1 + x.d.length + 1 + 1 + 1 + 1 + 1 + 1 + 1)] := rfl
    rw [eM] at hx
    generalize hT : t + 1 + 1 + 1 + 1 + (x.d.length : Int) = T at *
    have v0 : ¬ T < 0 := by omega
    have v1 : IntKind.i64.wrap (T + 1) = T + 1 := wrap_i64 (by omega) (by omega)
    have v2 : IntKind.i64.wrap (T + 1 + 1) = T + 1 + 1 := wrap_i64 (by omega) (by omega)
    have v3 : IntKind.i64.wrap (T + 1 + 1 + 1) = T + 1 + 1 + 1 := wrap_i64 (by omega) (by omega)
    have v4 : IntKind.i64.wrap (T + 1 + 1 + 1 + 1) = T + 1 + 1 + 1 + 1 := wrap_i64 (by omega) (by omega)
    have v5 : IntKind.i64.wrap (T + 1 + 1 + 1 + 1 + 1) = T + 1 + 1 + 1 + 1 + 1 := wrap_i64 (by omega) (by omega)
    have v6 : IntKind.i64.wrap (T + 1 + 1 + 1 + 1 + 1 + 1) = T + 1 + 1 + 1 + 1 + 1 + 1 := wrap_i64 (by omega) (by omega)
    have v7 : IntKind.i64.wrap (T + 1 + 1 + 1 + 1 + 1 + 1 + 1) = T + 1 + 1 + 1 + 1 + 1 + 1 + 1 := wrap_i64 (by omega) (by omega)
    have v8 : IntKind.i64.wrap (T + 1 + 1 + 1 + 1 + 1 + 1 + 1 + 1) = T + 1 + 1 + 1 + 1 + 1 + 1 + 1 + 1 := wrap_i64 (by omega) (by omega)
    simp (maxSteps := 400000) -implicitDefEqProofs [L_laws_heldEventS, retK_eq, cutK_eq, hx, hw, hc, hT, u1, u2, u3, u4, v0, v1, v2, v3, v4, v5, v6, v7, v8, h]
end Go.Ab
