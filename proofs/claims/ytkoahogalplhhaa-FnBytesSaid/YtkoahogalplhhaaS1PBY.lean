/- What the functions of the program answer, for all arguments that the theorems name as conditions. -/
import Derived.Test.YtkoahogalplhhaaS1T1
import Derived.Test.YtkoahogalplhhaaS1Q9
import Derived.Test.YtkoahogalplhhaaS1E5
namespace Go.Ab
open Go.Proofs
set_option linter.unusedSimpArgs false
set_option linter.unusedVariables false
set_option maxHeartbeats 40000000

/-! ## FnBytes -/
theorem l_FnBytes (l : List Int) (hl : bytesOk l) (d d2 : DecT) (b : Int) (cs : List Int) (hcs : cs.length ≤ 2) (hd2 : decB d2 = true) (hsome : 0 < cs.length ∨ 0 < d2.l) (zs : ∀ m, icall X_spec_StepDecoder [decV d, .int .u8 b] m = some (decR 0 cs d2, m)) (r : List Int) : ∀ (p : List Int) (q : Nat), cs = p ++ r → allCh r = true → r.length < q → L_laws_FnBytes 0 q 0 [frS eU8 l, ptr 0, .int .u8 b, ptr 1, .int .i64 p.length] [blk [.int .i64 d.l, .int .i64 d.w, .int .i64 d.v], blk [.int .i64 0, frS eI6 cs, .int .i64 d2.l, .int .i64 d2.w, .int .i64 d2.v]] = some (.bool true, []) := by
  induction r with
  | nil =>
    intro p q hp hr hq
    obtain ⟨q, rfl⟩ : ∃ n, q = n + 1 := ⟨q - 1, by omega⟩
    obtain ⟨c, e1⟩ := d_EncodeChar l hl []
    have e1 := icall_all e1
    obtain ⟨x, e2⟩ := d_EndDecoder l hl []
    have e2 := icall_all e2
    have z1 := z_impl_EndDecoder x
    have z2 := z_spec_EndDecoder x
    have z3 := z_impl_EncodeChar c
    have z4 := z_spec_EncodeChar c
    have z5 := s_impl_DecoderFault d2
    have ef : decF d2 = 0 := by simp [decF, hd2]
    rw [ef] at z5
    have z6 := s_lwNums cs (by omega)
    have z7 := s_lwNums (endX x) (by unfold endX; split <;> simp)
    have hle : ¬ (p.length : Int) < cs.length := by rw [hp]; simp
    have hle2 : (cs.length : Int) ≤ 2 := by omega
    generalize endX x = ex at *
    generalize decF x = fx at *
    generalize encX c = bx at *
    generalize encK c = kx at *
    by_cases h0 : 0 < cs.length
    · have h0' : (0 : Int) < cs.length := by omega
      have hne : ¬ cs = [] := fun e => by rw [e] at h0; simp at h0
      simp (maxSteps := 4000000) -implicitDefEqProofs [-icall_eq, L_laws_FnBytes, retK_eq, cutK_eq, hle, hle2, h0', h0, hne, e1, e2, z1, z2, z3, z4, z5, z6, z7, zs]
    · have h0' : ¬ (0 : Int) < cs.length := by omega
      have h1 : 0 < d2.l := by rcases hsome with h | h; · exact absurd h h0
                               · exact h
      obtain rfl : cs = [] := List.eq_nil_of_length_eq_zero (by omega)
      have hle3 : ¬ (p.length : Int) < 0 := by omega
      simp (maxSteps := 4000000) -implicitDefEqProofs [-icall_eq, L_laws_FnBytes, retK_eq, cutK_eq, hle3, hle2, h0', h1, e1, e2, z1, z2, z3, z4, z5, z6, z7, zs]
  | cons x r ih =>
    intro p q hp hr hq
    obtain ⟨q, rfl⟩ : ∃ n, q = n + 1 := ⟨q - 1, by omega⟩
    have hr' : chB x = true ∧ allCh r = true := by simpa [allCh] using hr
    have h := ih (p ++ [x]) q (by simpa using hp) hr'.2 (by simp at hq; omega)
    have hlen : cs.length = p.length + (r.length + 1) := by rw [hp]; simp
    have hlt : (p.length : Int) < cs.length := by omega
    have hx := ixa_mid eI6 (sz := 1) rfl .i64 p x r
    rw [← hp] at hx
    have hw := wrap_next (n := p.length) (by omega)
    have z3 := z_impl_EncodeChar x
    have ek : encK x = 0 := by simp [encK, hr'.1]
    rw [ek] at z3
    generalize encX x = bx at *
    simp at h
    simp (maxSteps := 1000000) -implicitDefEqProofs [-icall_eq, L_laws_FnBytes, retK_eq, cutK_eq, hlt, hx, hw, z3, h]
theorem s_FnBytes (l : List Int) (hb : ∀ x ∈ l, 0 ≤ x ∧ x < 256) : X_laws_FnBytes [frS eU8 l] [] = some (.bool true, []) := by
  have b0 := s_lwBig l
  by_cases hbig : 1048576 < l.length
  · simp -implicitDefEqProofs [X_laws_FnBytes, retK_eq, b0, hbig]
  have hl := bytes_small hbig hb
  obtain ⟨d, b, hbb, e1⟩ := d_StepDecoder l hl []
  have e1 := icall_all e1
  cases hd : decB d
  · have z1 := z_impl_bad d b hd
    have z2 := z_spec_bad d b hd
    have z3 := s_impl_DecoderFault d
    have ef : decF d = 3 := by simp [decF, hd]
    rw [ef] at z3
    simp (maxSteps := 4000000) -implicitDefEqProofs [-icall_eq, X_laws_FnBytes, retK_eq, cutK_eq, b0, hbig, e1, z1, z2, z3]
  · have z1 := z_impl_ok d b hd hbb
    have z2 := z_spec_ok d b hd hbb
    obtain ⟨s1, s2⟩ := step_dec hd hbb
    have s3 := step_ch (d := d) hbb
    have s4 := step_some hd hbb
    generalize stepD d b = st at *
    obtain ⟨cs, d2⟩ := st
    simp only at *
    have h := l_FnBytes l hl d d2 b cs s2 s1 s4 z2 cs [] QQ rfl s3 (by unfold QQ; omega)
    simp at h
    simp (maxSteps := 4000000) -implicitDefEqProofs [-icall_eq, X_laws_FnBytes, retK_eq, cutK_eq, b0, hbig, e1, z1, h]
def good : List Nat := [22, 5]
theorem good_ok : goodB CT good = true := by kernel_rfl
theorem all_FnBytes : ∀ xs, TypedAll CT [22] xs → Fz CT 12 xs (.bool true)
  | [a], h => by
    obtain ⟨l, rfl, _, hb⟩ := typed_code (s := 22) (e := 5) h.1 rfl rfl rfl
    exact fz_law ok_X_laws_FnBytes (s_FnBytes l hb) (by simp)
  | [], h => h.elim
  | _ :: _ :: _, h => h.2.elim
end Go.Ab
