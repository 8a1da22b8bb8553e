/- What the functions of the program answer, for all arguments that the theorems name as conditions. -/
import Derived.Test.YtkfbpdbopkdnjaaS10Mf
import Derived.Test.YtkfbpdbopkdnjaaS10Ma
namespace Go.Ab
open Go.Proofs
set_option linter.unusedSimpArgs false
set_option linter.unusedVariables false
set_option maxHeartbeats 4000000

theorem typed_wayL {cs : List Value} (h : Typed CT 103 cs) : ∃ a b c d e f g : Int, cs = [.int .i64 a, .int .i64 b, .int .i64 c, .int .i64 d, .int .i64 e, .int .i64 f, .int .i64 g] := by
  obtain ⟨h1, h2⟩ := typed_struct h rfl
  have h1 : cs.length = 7 := h1
  match cs, h1 with
  | [a0, a1, a2, a3, a4, a5, a6], _ =>
    obtain ⟨x0, rfl, _⟩ := typed_i64 (h2 (0, 2) (by simp)) rfl
    obtain ⟨x1, rfl, _⟩ := typed_i64 (h2 (1, 2) (by simp)) rfl
    obtain ⟨x2, rfl, _⟩ := typed_i64 (h2 (2, 2) (by simp)) rfl
    obtain ⟨x3, rfl, _⟩ := typed_i64 (h2 (3, 2) (by simp)) rfl
    obtain ⟨x4, rfl, _⟩ := typed_i64 (h2 (4, 2) (by simp)) rfl
    obtain ⟨x5, rfl, _⟩ := typed_i64 (h2 (5, 2) (by simp)) rfl
    obtain ⟨x6, rfl, _⟩ := typed_i64 (h2 (6, 2) (by simp)) rfl
    exact ⟨x0, x1, x2, x3, x4, x5, x6, rfl⟩
end Go.Ab
namespace Go.Ab
open Go.Proofs
set_option linter.unusedSimpArgs false
set_option linter.unusedVariables false
set_option maxHeartbeats 4000000

theorem typed_u8s {a : Value} (h : Typed CT 22 [a]) : ∃ l : List Int, a = frS eU8 l ∧ l.length ≤ 9223372036854775807 := by
  obtain ⟨l, e, f, _⟩ := typed_enc eU8 (p := fun _ => True) h (e := 5) rfl fun x h1 h2 => by
    have h2 : x.length = 1 := h2
    match x, h2 with
    | [a], _ =>
      obtain ⟨n, rfl, hn⟩ := typed_int h1 (q := .u8) rfl
      exact ⟨n, rfl, trivial⟩
  exact ⟨l, e, f⟩
end Go.Ab
namespace Go.Ab
open Go.Proofs
set_option linter.unusedSimpArgs false
set_option linter.unusedVariables false
set_option maxHeartbeats 4000000

theorem typed_bsl {a : Value} (h : Typed CT 83 [a]) : ∃ l : List (List Int), a = frS eBS l ∧ l.length ≤ 9223372036854775807 ∧ ∀ x ∈ l, x.length ≤ 9223372036854775807 :=
  typed_enc eBS (p := fun x => x.length ≤ 9223372036854775807) h (e := 22) rfl fun x h1 h2 => by
    have h2 : x.length = 1 := h2
    match x, h2 with
    | [a], _ =>
      obtain ⟨n, rfl, hn⟩ := typed_u8s h1
      exact ⟨n, rfl, hn⟩
end Go.Ab
namespace Go.Ab
open Go.Proofs
set_option linter.unusedSimpArgs false
set_option linter.unusedVariables false
set_option maxHeartbeats 4000000

/-! ## FnExactReadLine -/
theorem sumL_mem : ∀ (l : List (List Int)) x, x ∈ l → x.length ≤ sumL l
  | [], x, h => by cases h
  | y :: r, x, h => by
    rw [sumL]
    rcases List.mem_cons.1 h with rfl | h
    · omega
    · have := sumL_mem r x h
      omega
theorem upSS_sum (l : List (List Int)) : ∀ t : Int, upSS t l = t + sumL l := by
  induction l with
  | nil => intro t; simp [upSS, sumL]
  | cons x r ih => intro t; rw [upSS, ih, sumL]; push_cast; omega
theorem rdS_facts (c : Bool) (n : Nat) : ∀ (r : List (List Int)) (out : List Int), out.length ≤ n → (rdS c n out r).1.length ≤ n ∧ (rdS c n out r).2.length ≤ r.length ∧ sumL (rdS c n out r).2 ≤ sumL r
  | [], out, h => by simp [rdS, h]
  | x :: r, out, h => by
    rw [rdS]
    split
    · split
      · refine ⟨by simp; omega, by simp, ?_⟩
        simp only [sumL, List.length_drop]
        omega
      · split
        · refine ⟨by simp; omega, by simp, ?_⟩
          simp only [sumL]
          omega
        · obtain ⟨i1, i2, i3⟩ := rdS_facts c n r (out ++ x) (by simp; omega)
          refine ⟨i1, by simp; omega, ?_⟩
          simp only [sumL]
          omega
    · exact ⟨h, Nat.le_refl _, Nat.le_refl _⟩
theorem s_FnExactReadLine (w : WayT) (l : LnT) (x : Int) (hf : l.fit) : X_laws_FnExactReadLine [wayV w, lnV l, .int .i64 x] [] = some (.bool true, []) := by
  have S0 := s_szLine l 1048576 hf (by omega) (by omega)
  by_cases h0 : szLn l 1048576 < 0
  · simp (maxSteps := 2000000) -implicitDefEqProofs [X_laws_FnExactReadLine, retK_eq, S0, h0]
  have h1 : ¬ szSS l.rows 1048576 < 0 := by
    intro h
    apply h0
    unfold szLn
    rw [if_pos h]
    omega
  have h2 : szLn l 1048576 = szN l.cur.length (szSS l.rows 1048576) := by unfold szLn; rw [if_neg h1]
  obtain ⟨hle, hn, hb, hu⟩ := szSS_small (l := l.rows) (x := 1048576) (by omega) (by omega)
  have hc : l.cur.length < 1000000000 := szN_small (x := szSS l.rows 1048576) hle (by omega)
  have hl : l.rows.length < 1100000 := by omega
  have hsm : l.small := ⟨by omega, hb, hc⟩
  have hup : upSS 1 l.rows ≤ 10000000000 := by
    have := sumL_up l.rows 1
    omega
  have bad : ∀ c, X_spec_ReadLine (rlA w l x) [] = some (lrB c, []) → X_impl_ReadLine (rlA w l x) [] = some (lrB c, []) → X_laws_FnExactReadLine [wayV w, lnV l, .int .i64 x] [] = some (.bool true, []) := fun c S I =>
    law_core w l x hl hb hc hsm hup S0 h0 c false false 0 [] ⟨[], [], false, 0⟩ (lrB c) nilW nilW nilW nilW (lrF c false [] [] ⟨[], [], false, 0⟩) (fun _ => nilW) (fun _ => nilW) (fun _ => nilW) (fun _ => nilW) [] [] [] 1 (by omega) (fun _ => ⟨rfl, rfl, rfl, rfl⟩) S (fz_rb c) I (can_rb c) hd_nil (rn_rb c) (fz_rb c) (s_eqLineResult c false [] [] ⟨[], [], false, 0⟩ (by simp) (by simp) ⟨by simp, by simp, by simp⟩) (s_markLineResult_b c) (can_rb c) rfl (fz_rb c) (by
      have := s_heldLineResult c false 0 ⟨[], [], false, 0⟩ (by omega) (by simp) (by simp) (by simp) (by simp [upSS])
      simpa [markB, mkL, upSS, markSS] using this)
  by_cases hk : askF w l = 0
  · obtain ⟨r40, s40⟩ := line_small40 hk
    unfold LnT.size at s40
    cases ho : inB x 1 99
    · exact bad 3 (s_spec_RL_3 w l x hsm hk ho) (s_impl_RL_3 w l x hsm hk ho)
    · have hx : 1 ≤ x ∧ x ≤ 99 := by simpa [inB] using ho
      by_cases hr : l.rows = []
      · have S := s_spec_RL_0 w l x hsm hk ho hr
        have I := s_impl_RL_0 w l x hsm hk ho hr
        rw [lnM_0 l hr] at I
        obtain ⟨rows, cur, t, n⟩ := l
        simp only at hr S I s40 hc
        subst hr
        have canK := can_r0 (markB 1 cur.length) t n
        have fzK := fz_r0 (markB 1 cur.length) t n
        rw [edV_mark] at canK fzK
        have lenK : (r0M (markB 1 cur.length)).length = (r0M cur).length := by
          show (edM _).length + 1 = (edM _).length + 1
          rw [edM_mark]
        have fE : ∀ k, flat (edV k cur) = true := fun k => by unfold edV; split <;> rfl
        exact law_core w ⟨[], cur, t, n⟩ x hl hb hc hsm hup S0 h0 0 false t n [] ⟨[], cur, t, n⟩ _ nilW nilW (slO 0 0) (edV 1 cur) _ (fun _ => nilW) (fun _ => nilW) (fun k => slO k 0) (fun k => edV (k + 1) cur) _ _ _ _ (by omega) (fun k => ⟨rfl, rfl, rfl, fE _⟩) S (fz_sp0 cur t n) I (can_r0 cur t n) (hd_r0 cur) (rn_r0 cur t n) (fz_r0 cur t n) (s_eqLineResult 0 false [] [] ⟨[], cur, t, n⟩ (by simp) (by simp) hsm) (s_markLineResult_0 cur t n hc) canK lenK fzK (by
          have := s_heldLineResult 0 false 0 ⟨[], cur, t, n⟩ (by omega) (by simp) (by simp) hc (by simp [upSS])
          simpa [markB, mkL, upSS, markSS] using this)
      · obtain ⟨N, rfl⟩ : ∃ N : Nat, x = (N : Int) := ⟨x.toNat, by omega⟩
        obtain ⟨p, g1, g2, S⟩ := s_spec_RL w l N hsm hk ho hr
        have I := s_impl_RL w l N hsm hk ho hr (fun y hy => by have := sumL_mem l.rows y hy; omega)
        obtain ⟨i1, i2, i3⟩ := rdS_facts (cnB w) N l.rows [] (by simp)
        obtain ⟨rows, cur, t, n⟩ := l
        simp only at hr S I s40 hc r40 i1 i2 i3
        generalize rdS (cnB w) N [] rows = RR at *
        obtain ⟨O, R⟩ := RR
        simp only at S I i1 i2 i3
        have hRb : ∀ y ∈ R, y.length < 1000000000 := fun y hy => by have := sumL_mem R y hy; omega
        have hu2 := upSS_sum R (1 + O.length)
        have canK := can_ra (markB 1 O.length) (markB (upSS (1 + O.length) R) cur.length) t n (markSS (1 + O.length) R) (by rw [markSS_len]; omega)
        have fzK := fz_ra (markB 1 O.length) (markB (upSS (1 + O.length) R) cur.length) t n (markSS (1 + O.length) R)
        rw [edV_mark, markSS_len, markB_len] at canK fzK
        have lenK : (raM (markB 1 O.length) (markB (upSS (1 + O.length) R) cur.length) (markSS (1 + O.length) R)).length = (raM O cur R).length := by
          simp only [List.length_cons, List.length_append, edM_mark, famM_len, famN_markK]
        have fE : ∀ k, flat (edV k cur) = true := fun k => by unfold edV; split <;> rfl
        exact law_core w ⟨rows, cur, t, n⟩ N hl hb hc hsm hup S0 h0 0 true t n O ⟨R, cur, t, n⟩ _ (slO 0 O.length) nilW (slO 1 R.length) (edV 2 cur) _ (fun k => slO k O.length) (fun _ => nilW) (fun k => slO (k + 1) R.length) (fun k => edV (k + 2) cur) _ _ _ _ (by omega) (fun k => ⟨rfl, rfl, rfl, fE _⟩) S (fz_sp O cur t n p R) I (can_ra O cur t n R (by omega)) (hd_ra O cur R) (rn_ra O cur t n R _ _) (fz_ra O cur t n R) (s_eqLineResult 0 true O [] ⟨R, cur, t, n⟩ (by omega) (by simp) ⟨by simp only; omega, hRb, hc⟩) (s_markLineResult O cur t n R (by omega) (by omega) hRb hc (by omega)) canK lenK fzK (s_heldLineResult 0 true O.length ⟨R, cur, t, n⟩ (by omega) (by simp only; omega) hRb hc (by simp only; omega))
  · exact bad _ (s_spec_RL_bad w l x hsm hk) (s_impl_RL_bad w l x hsm hk)
theorem typed_wayW {a : Value} (h : TypedV CT 103 a) : ∃ w : WayT, a = wayV w := by
  obtain ⟨cs, rfl, h⟩ : ∃ cs : Array Value, a = .agg cs ∧ Typed CT 103 cs.toList := h
  obtain ⟨a, b, c, d, e, f, g, e1⟩ := typed_wayL h
  obtain ⟨cs⟩ := cs
  exact ⟨⟨a, b, c, d, e, f, g⟩, by rw [show cs = _ from e1]⟩
theorem typed_ln {a : Value} (h : TypedV CT 105 a) : ∃ l : LnT, a = lnV l ∧ l.fit := by
  obtain ⟨cs, rfl, h⟩ : ∃ cs : Array Value, a = .agg cs ∧ Typed CT 105 cs.toList := h
  obtain ⟨cs⟩ := cs
  obtain ⟨h1, h2⟩ := typed_struct h rfl
  match cs, h1, h2 with
  | [a0, a1, a2, a3], _, h2 =>
    obtain ⟨x0, rfl, f0, g0⟩ := typed_bsl (h2 (0, 83) (by simp))
    obtain ⟨x1, rfl, f1⟩ := typed_u8s (h2 (1, 22) (by simp))
    obtain ⟨x2, rfl⟩ := typed_bool (h2 (2, 4) (by simp)) rfl
    obtain ⟨x3, rfl, _⟩ := typed_i64 (h2 (3, 2) (by simp)) rfl
    exact ⟨⟨x0, x1, x2, x3⟩, rfl, f0, g0, f1⟩
def good : List Nat := [2, 4, 5, 22, 83, 103, 105]
theorem good_ok : goodB CT good = true := by kernel_rfl
theorem all_FnExactReadLine : ∀ xs, TypedAll CT [103, 105, 2] xs → Fz CT 10 xs (.bool true)
  | [a, b, c], h => by
    obtain ⟨w, rfl⟩ := typed_wayW h.1
    obtain ⟨l, rfl, hl⟩ := typed_ln h.2.1
    obtain ⟨n, rfl, _⟩ := typed_i64 (i := 2) h.2.2.1 rfl
    exact fz_law ok_X_laws_FnExactReadLine (s_FnExactReadLine w l n hl) (by simp)
  | [], h => h.elim
  | [_], h => h.2.elim
  | [_, _], h => h.2.2.elim
  | _ :: _ :: _ :: _ :: _, h => h.2.2.2.elim
end Go.Ab
