/- What the functions of the program answer, for all arguments that the theorems name as conditions. -/
import Derived.Test.YtkoahogalplhhaaS1Q2
import Derived.Test.YtkoahogalplhhaaS1Q5a
namespace Go.Ab
set_option linter.unusedSimpArgs false
set_option linter.unusedVariables false
set_option maxHeartbeats 40000000

/-! ## StepDecoder, EncodeChar, EndDecoder of both -/
abbrev decW (k : Int) (v : Value) (d : DecT) : Value := .agg #[.int .i64 k, v, .int .i64 d.l, .int .i64 d.w, .int .i64 d.v]
theorem s_impl_StepDecoder_bad (d : DecT) (b : Int) (h : decB d = false) : X_impl_StepDecoder [decV d, .int .u8 b] [] = some (decW 3 nil0 dec0, []) := by
  have c1 := s_impl_DecoderFault d
  simp -implicitDefEqProofs [X_impl_StepDecoder, retK_eq, c1, decF, h, dec0]
theorem s_impl_StepDecoder (d : DecT) (b : Int) (hd : decB d = true) (hb : 0 ≤ b ∧ b < 256) : ∃ v m, SLN (stepD d b).1 v m ∧ X_impl_StepDecoder [decV d, .int .u8 b] [] = some (decW 0 v (stepD d b).2, m) := by
  have c1 := s_impl_DecoderFault d
  obtain ⟨v, m, hs, h⟩ := s_impl_hear d b hd hb
  refine ⟨v, m, hs, ?_⟩
  generalize stepD d b = r at *
  obtain ⟨cs, d2⟩ := r
  simp only at *
  rcases hs with ⟨rfl, rfl, rfl⟩ | ⟨rfl, rfl⟩ <;> simp -implicitDefEqProofs [X_impl_StepDecoder, retK_eq, c1, decF, hd, h]
theorem s_spec_StepDecoder_bad (d : DecT) (b : Int) (h : decB d = false) : X_spec_StepDecoder [decV d, .int .u8 b] [] = some (decW 3 nil0 dec0, []) := by
  have c1 := fun rest => s_spec_l1Fault d rest
  simp -implicitDefEqProofs [X_spec_StepDecoder, retK_eq, c1, decF, h, dec0]
theorem s_spec_StepDecoder (d : DecT) (b : Int) (hd : decB d = true) (hb : 0 ≤ b ∧ b < 256) : X_spec_StepDecoder [decV d, .int .u8 b] [] = some (decW 0 (slO 0 (stepD d b).1.length) (stepD d b).2, [ownB eI6 (stepD d b).1]) := by
  have c1 := fun rest => s_spec_l1Fault d rest
  have h := s_spec_l1Step d b hd hb
  have hv : IntKind.i64.wrap b = b := wrap_i64 (by omega) (by omega)
  simp -implicitDefEqProofs [X_spec_StepDecoder, retK_eq, c1, decF, hd, hv, h]
theorem s_impl_EncodeChar (c : Int) : X_impl_EncodeChar [.int .i64 c] [] = if chB c = true then some (.agg #[.int .i64 0, slO 0 (encB c).length], [ownB eU8 (encB c)]) else some (.agg #[.int .i64 3, nilQ], []) := by
  cases h : chB c
  · simp -implicitDefEqProofs [X_impl_EncodeChar, retK_eq, s_impl_isChar, h]
  · have hb := ch_bd h
    have he := s_impl_encode c hb.1 hb.2
    simp -implicitDefEqProofs [X_impl_EncodeChar, retK_eq, s_impl_isChar, h, he]
theorem s_spec_EncodeChar (c : Int) : X_spec_EncodeChar [.int .i64 c] [] = if chB c = true then some (.agg #[.int .i64 0, slO 0 (encB c).length], [ownB eU8 (encB c)]) else some (.agg #[.int .i64 3, nilQ], []) := by
  cases h : chB c
  · simp -implicitDefEqProofs [X_spec_EncodeChar, retK_eq, s_spec_l1Char, h]
  · have hb := ch_bd h
    have he := s_spec_l1Encode c hb.1 hb.2
    simp -implicitDefEqProofs [X_spec_EncodeChar, retK_eq, s_spec_l1Char, h, he]
def endK (d : DecT) : Int := decF d
def endX (d : DecT) : List Int := if decB d = true ∧ 0 < d.l then [65533] else []
abbrev bdB : Blk := ⟨[.int .i64 65533], 1, true, true⟩
theorem s_impl_EndDecoder (d : DecT) : X_impl_EndDecoder [decV d] [] = if decB d = true ∧ 0 < d.l then some (.agg #[.int .i64 0, slO 0 1], [bdB]) else some (.agg #[.int .i64 (decF d), nilQ], []) := by
  have c1 := s_impl_DecoderFault d
  cases h : decB d
  · simp -implicitDefEqProofs [X_impl_EndDecoder, retK_eq, c1, decF, h]
  · by_cases h2 : 0 < d.l
    · simp -implicitDefEqProofs [X_impl_EndDecoder, retK_eq, c1, decF, h, h2]
    · simp -implicitDefEqProofs [X_impl_EndDecoder, retK_eq, c1, decF, h, h2]
theorem s_spec_EndDecoder (d : DecT) : X_spec_EndDecoder [decV d] [] = if decB d = true ∧ 0 < d.l then some (.agg #[.int .i64 0, slO 0 1], [bdB]) else some (.agg #[.int .i64 (decF d), nilQ], []) := by
  have c1 := fun rest => s_spec_l1Fault d rest
  cases h : decB d
  · simp -implicitDefEqProofs [X_spec_EndDecoder, retK_eq, c1, decF, h]
  · by_cases h2 : 0 < d.l
    · simp -implicitDefEqProofs [X_spec_EndDecoder, retK_eq, c1, decF, h, h2]
    · simp -implicitDefEqProofs [X_spec_EndDecoder, retK_eq, c1, decF, h, h2]
end Go.Ab
