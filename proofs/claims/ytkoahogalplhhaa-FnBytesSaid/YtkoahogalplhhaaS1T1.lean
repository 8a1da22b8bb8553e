/- What the functions of the program answer, for all arguments that the theorems name as conditions. -/
import Derived.Test.YtkoahogalplhhaaS1T0
import Derived.Test.YtkoahogalplhhaaS1Q6
namespace Go.Ab
set_option linter.unusedSimpArgs false
set_option linter.unusedVariables false
set_option maxHeartbeats 40000000

/-! ## Frozen answers: what is drawn, stepped, encoded -/
theorem s_pick12 (l : List Int) (a x0 x1 x2 x3 x4 x5 x6 x7 x8 x9 x10 x11 : Int) (hl : bytesOk l) (ha : atOk a) : X_spec_l1Pick [pt 0, .slice (some ⟨1, 0, none⟩) 12 12] [srcM l a, ⟨[.int .i64 x0, .int .i64 x1, .int .i64 x2, .int .i64 x3, .int .i64 x4, .int .i64 x5, .int .i64 x6, .int .i64 x7, .int .i64 x8, .int .i64 x9, .int .i64 x10, .int .i64 x11], 1, true, true⟩] = some (.int .i64 (pk l a [x0, x1, x2, x3, x4, x5, x6, x7, x8, x9, x10, x11]), [srcM l (a + 1), ⟨[.int .i64 x0, .int .i64 x1, .int .i64 x2, .int .i64 x3, .int .i64 x4, .int .i64 x5, .int .i64 x6, .int .i64 x7, .int .i64 x8, .int .i64 x9, .int .i64 x10, .int .i64 x11], 1, true, true⟩]) := s_pickG l a [x0, x1, x2, x3, x4, x5, x6, x7, x8, x9, x10, x11] hl ha (by simp)
theorem d_StepDecoder (l : List Int) (hl : bytesOk l) (m : Mem) : ∃ (d : DecT) (b : Int), (0 ≤ b ∧ b < 256) ∧ icall X_spec_DrawStepDecoder [frS eU8 l] m = some (.tuple #[decV d, .int .u8 b], m) := by
  obtain ⟨d, a, a0, a1, h⟩ := s_l1Draw l hl 0 (by omega) (by omega)
  have n1 := s_l1Next l a 256 hl ⟨by omega, by omega⟩
  have nb := nx_bd hl (a := a) (n := 256) ⟨by omega, by omega⟩ (by omega)
  have k1 := fun x0 x1 x2 x3 x4 x5 x6 x7 x8 => s_pick9 l (a + 1) x0 x1 x2 x3 x4 x5 x6 x7 x8 hl ⟨by omega, by omega⟩
  have hm := pk_mem hl (a := a + 1) ⟨by omega, by omega⟩ (xs := [nx l a 256, 128, 191, 192, 193, 223, 224, 239, 240]) (by simp)
  have hb : 0 ≤ pk l (a + 1) [nx l a 256, 128, 191, 192, 193, 223, 224, 239, 240] ∧ pk l (a + 1) [nx l a 256, 128, 191, 192, 193, 223, 224, 239, 240] < 256 := by
    simp only [List.mem_cons, List.not_mem_nil, or_false] at hm
    omega
  have hv : IntKind.u8.wrap (pk l (a + 1) [nx l a 256, 128, 191, 192, 193, 223, 224, 239, 240]) = pk l (a + 1) [nx l a 256, 128, 191, 192, 193, 223, 224, 239, 240] := wrap_u8' hb.1 hb.2
  refine ⟨d, pk l (a + 1) [nx l a 256, 128, 191, 192, 193, 223, 224, 239, 240], hb, icall_all ?_ m⟩
  simp (maxSteps := 1000000) -implicitDefEqProofs [X_spec_DrawStepDecoder, retK_eq, s_l1Source, h, n1, k1, hv]
theorem d_EncodeChar (l : List Int) (hl : bytesOk l) (m : Mem) : ∃ c : Int, icall X_spec_DrawEncodeChar [frS eU8 l] m = some (.int .i64 c, m) := by
  have n1 := s_l1Next l 0 300 hl ⟨by omega, by omega⟩
  have k1 := fun x0 x1 x2 x3 x4 x5 x6 x7 x8 x9 x10 x11 => s_pick12 l 1 x0 x1 x2 x3 x4 x5 x6 x7 x8 x9 x10 x11 hl ⟨by omega, by omega⟩
  simp at n1
  refine ⟨pk l 1 [nx l 0 300, 127, 128, 2047, 2048, 55295, 55296, 57343, 57344, 65535, 65536, -1], icall_all ?_ m⟩
  simp (maxSteps := 1000000) -implicitDefEqProofs [X_spec_DrawEncodeChar, retK_eq, s_l1Source, n1, k1]
theorem d_EndDecoder (l : List Int) (hl : bytesOk l) (m : Mem) : ∃ d : DecT, icall X_spec_DrawEndDecoder [frS eU8 l] m = some (decV d, m) := by
  obtain ⟨d, a, a0, a1, h⟩ := s_l1Draw l hl 0 (by omega) (by omega)
  refine ⟨d, icall_all ?_ m⟩
  simp (maxSteps := 1000000) -implicitDefEqProofs [X_spec_DrawEndDecoder, retK_eq, s_l1Source, h]
abbrev decR (k : Int) (cs : List Int) (d : DecT) : Value := decW k (frS eI6 cs) d
theorem z_impl_bad (d : DecT) (b : Int) (h : decB d = false) (m : Mem) : icall X_impl_StepDecoder [decV d, .int .u8 b] m = some (decR 3 [] dec0, m) :=
  icall_all (by simp -implicitDefEqProofs [s_impl_StepDecoder_bad d b h, frS_nil]) m
theorem z_spec_bad (d : DecT) (b : Int) (h : decB d = false) (m : Mem) : icall X_spec_StepDecoder [decV d, .int .u8 b] m = some (decR 3 [] dec0, m) :=
  icall_all (by simp -implicitDefEqProofs [s_spec_StepDecoder_bad d b h, frS_nil]) m
theorem z_impl_ok (d : DecT) (b : Int) (hd : decB d = true) (hb : 0 ≤ b ∧ b < 256) (m : Mem) : icall X_impl_StepDecoder [decV d, .int .u8 b] m = some (decR 0 (stepD d b).1 (stepD d b).2, m) := by
  obtain ⟨v, mm, hs, h⟩ := s_impl_StepDecoder d b hd hb
  generalize (stepD d b).1 = cs at *
  refine icall_all ?_ m
  rcases hs with ⟨rfl, rfl, rfl⟩ | ⟨rfl, rfl⟩ <;> simp -implicitDefEqProofs [h, frS_nil]
theorem z_spec_ok (d : DecT) (b : Int) (hd : decB d = true) (hb : 0 ≤ b ∧ b < 256) (m : Mem) : icall X_spec_StepDecoder [decV d, .int .u8 b] m = some (decR 0 (stepD d b).1 (stepD d b).2, m) :=
  icall_all (by simp -implicitDefEqProofs [s_spec_StepDecoder d b hd hb]) m
abbrev encR (k : Int) (bs : List Int) : Value := .agg #[.int .i64 k, frS eU8 bs]
def encK (c : Int) : Int := if chB c = true then 0 else 3
def encX (c : Int) : List Int := if chB c = true then encB c else []
theorem z_impl_EncodeChar (c : Int) (m : Mem) : icall X_impl_EncodeChar [.int .i64 c] m = some (encR (encK c) (encX c), m) := by
  have h := s_impl_EncodeChar c
  refine icall_all ?_ m
  cases h2 : chB c <;> simp only [h2, if_true, if_false] at h <;> simp -implicitDefEqProofs [h, encK, encX, h2, frS_nil]
theorem z_spec_EncodeChar (c : Int) (m : Mem) : icall X_spec_EncodeChar [.int .i64 c] m = some (encR (encK c) (encX c), m) := by
  have h := s_spec_EncodeChar c
  refine icall_all ?_ m
  cases h2 : chB c <;> simp only [h2, if_true, if_false] at h <;> simp -implicitDefEqProofs [h, encK, encX, h2, frS_nil]
abbrev intR (k : Int) (bs : List Int) : Value := .agg #[.int .i64 k, frS eI6 bs]
theorem z_impl_EndDecoder (d : DecT) (m : Mem) : icall X_impl_EndDecoder [decV d] m = some (intR (decF d) (endX d), m) := by
  have h := s_impl_EndDecoder d
  have e : frS eI6 [65533] = roS 1 [.int .i64 65533] := rfl
  have e0 : frS eI6 [] = roS 0 [] := rfl
  refine icall_all ?_ m
  by_cases h2 : decB d = true ∧ 0 < d.l
  · rw [if_pos h2] at h
    have f := fun k m => fzO_own eI6 k m [65533]
    have eb : bdB = ownB eI6 [65533] := rfl
    have e2 : decF d = 0 := by simp [decF, h2.1]
    have e3 : endX d = [65533] := by unfold endX; rw [if_pos h2]
    rw [eb] at h
    simp at f
    simp -implicitDefEqProofs [h, e2, e3, f]
  · rw [if_neg h2] at h
    have e3 : endX d = [] := by unfold endX; rw [if_neg h2]
    simp -implicitDefEqProofs [h, e3, frS_nil]
theorem z_spec_EndDecoder (d : DecT) (m : Mem) : icall X_spec_EndDecoder [decV d] m = some (intR (decF d) (endX d), m) := by
  have h := s_spec_EndDecoder d
  refine icall_all ?_ m
  by_cases h2 : decB d = true ∧ 0 < d.l
  · rw [if_pos h2] at h
    have f := fun k m => fzO_own eI6 k m [65533]
    have eb : bdB = ownB eI6 [65533] := rfl
    have e2 : decF d = 0 := by simp [decF, h2.1]
    have e3 : endX d = [65533] := by unfold endX; rw [if_pos h2]
    rw [eb] at h
    simp at f
    simp -implicitDefEqProofs [h, e2, e3, f]
  · rw [if_neg h2] at h
    have e3 : endX d = [] := by unfold endX; rw [if_neg h2]
    simp -implicitDefEqProofs [h, e3, frS_nil]

/-! ## The plain law -/
theorem step_ch {d : DecT} {b : Int} (hb : 0 ≤ b ∧ b < 256) : allCh (stepD d b).1 = true := by
  have hf : allCh (freshD b).1 = true := by
    unfold freshD
    repeat' split
    · simp [allCh, chB, inB]; omega
    · rfl
    · rfl
    · decide
  have h5 : chB 65533 = true := by decide
  unfold stepD
  repeat' split
  · exact hf
  · simp only [allCh, List.all_cons, h5, Bool.true_and]; exact hf
  · rfl
  · rename_i h; simp [allCh]; exact h.1
  · decide
theorem step_some {d : DecT} {b : Int} (hd : decB d = true) (hb : 0 ≤ b ∧ b < 256) : 0 < (stepD d b).1.length ∨ 0 < (stepD d b).2.l := by
  have hf : 0 < (freshD b).1.length ∨ 0 < (freshD b).2.l := by
    unfold freshD
    repeat' split
    all_goals simp
  unfold stepD
  repeat' split
  · exact hf
  · left; simp
  · right; simp
  · left; simp
  · left; simp
end Go.Ab
