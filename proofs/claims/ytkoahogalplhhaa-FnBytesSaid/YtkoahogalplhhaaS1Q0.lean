/- What the functions of the program answer, for all arguments that the theorems name as conditions. -/
import Derived.Test.YtkoahogalplhhaaS1B1
namespace Go.Ab
set_option linter.unusedSimpArgs false
set_option linter.unusedVariables false
set_option maxHeartbeats 8000000

/-! ## Decoders -/
structure DecT where
  l : Int
  w : Int
  v : Int
deriving DecidableEq
abbrev decV (d : DecT) : Value := .agg #[.int .i64 d.l, .int .i64 d.w, .int .i64 d.v]
abbrev nil0 : Value := .slice none 0 0
def dec0 : DecT := ⟨0, 0, 0⟩
def decB (d : DecT) : Bool := (decide (d.l = 0) && decide (d.w = 0) && decide (d.v = 0)) || (decide (d.l = 1) && decide (d.w = 128) && inB d.v 2 31) || (decide (d.l = 2) && decide (d.w = 2048) && inB d.v 0 15) || (decide (d.l = 1) && decide (d.w = 2048) && inB d.v 0 1023)
def decF (d : DecT) : Int := if decB d = true then 0 else 3
theorem dec_facts {d : DecT} (h : decB d = true) : d = dec0 ∨ (d.l = 1 ∧ d.w = 128 ∧ 2 ≤ d.v ∧ d.v ≤ 31) ∨ (d.l = 2 ∧ d.w = 2048 ∧ 0 ≤ d.v ∧ d.v ≤ 15) ∨ (d.l = 1 ∧ d.w = 2048 ∧ 0 ≤ d.v ∧ d.v ≤ 1023) := by
  simp [decB, inB] at h
  rcases h with ((h | h) | h) | h
  · left
    obtain ⟨a, b, c⟩ := d
    simp only at h
    obtain ⟨⟨rfl, rfl⟩, rfl⟩ := h
    rfl
  · right; left; omega
  · right; right; left; omega
  · right; right; right; omega
theorem s_impl_DecoderFault (d : DecT) : X_impl_DecoderFault [decV d] [] = some (.int .i64 (decF d), []) := by
  obtain ⟨a, b, c⟩ := d
  by_cases h0 : a = 0
  · subst h0
    by_cases h1 : b = 0
    · subst h1
      by_cases h2 : c = 0
      · subst h2
        simp (maxSteps := 400000) -implicitDefEqProofs [X_impl_DecoderFault, retK_eq, eqFX_cons, decF, decB]
      · simp (maxSteps := 400000) -implicitDefEqProofs [X_impl_DecoderFault, retK_eq, eqFX_cons, decF, decB, h2]
    · simp (maxSteps := 400000) -implicitDefEqProofs [X_impl_DecoderFault, retK_eq, eqFX_cons, decF, decB, h1]
  by_cases h1 : a = 1
  · subst h1
    by_cases h2 : b = 128
    · subst h2
      cases h3 : inB c 2 31 <;> simp (maxSteps := 400000) -implicitDefEqProofs [X_impl_DecoderFault, retK_eq, eqFX_cons, decF, decB, s_impl_in, h3]
    · by_cases h3 : b = 2048
      · subst h3
        cases h4 : inB c 0 1023 <;> simp (maxSteps := 400000) -implicitDefEqProofs [X_impl_DecoderFault, retK_eq, eqFX_cons, decF, decB, s_impl_in, h4]
      · simp (maxSteps := 400000) -implicitDefEqProofs [X_impl_DecoderFault, retK_eq, eqFX_cons, decF, decB, s_impl_in, h2, h3]
  by_cases h2 : a = 2
  · subst h2
    by_cases h3 : b = 2048
    · subst h3
      cases h4 : inB c 0 15 <;> simp (maxSteps := 400000) -implicitDefEqProofs [X_impl_DecoderFault, retK_eq, eqFX_cons, decF, decB, s_impl_in, h4]
    · simp (maxSteps := 400000) -implicitDefEqProofs [X_impl_DecoderFault, retK_eq, eqFX_cons, decF, decB, s_impl_in, h3]
  · simp (maxSteps := 400000) -implicitDefEqProofs [X_impl_DecoderFault, retK_eq, eqFX_cons, decF, decB, s_impl_in, h0, h1, h2]
theorem s_spec_l1Fault (d : DecT) (rest : List Value) : X_spec_l1Fault [roP (.int .i64 d.l :: .int .i64 d.w :: .int .i64 d.v :: rest)] [] = some (.int .i64 (decF d), []) := by
  obtain ⟨a, b, c⟩ := d
  by_cases h0 : a = 0
  · subst h0
    by_cases h1 : b = 0
    · subst h1
      by_cases h2 : c = 0
      · subst h2
        simp (maxSteps := 400000) -implicitDefEqProofs [X_spec_l1Fault, retK_eq, eqFX_cons, decF, decB]
      · simp (maxSteps := 400000) -implicitDefEqProofs [X_spec_l1Fault, retK_eq, eqFX_cons, decF, decB, h2]
    · simp (maxSteps := 400000) -implicitDefEqProofs [X_spec_l1Fault, retK_eq, eqFX_cons, decF, decB, h1]
  by_cases h1 : a = 1
  · subst h1
    by_cases h2 : b = 128
    · subst h2
      cases h3 : inB c 2 31 <;> simp (maxSteps := 400000) -implicitDefEqProofs [X_spec_l1Fault, retK_eq, eqFX_cons, decF, decB, s_spec_l1In, h3]
    · by_cases h3 : b = 2048
      · subst h3
        cases h4 : inB c 0 1023 <;> simp (maxSteps := 400000) -implicitDefEqProofs [X_spec_l1Fault, retK_eq, eqFX_cons, decF, decB, s_spec_l1In, h4]
      · simp (maxSteps := 400000) -implicitDefEqProofs [X_spec_l1Fault, retK_eq, eqFX_cons, decF, decB, s_spec_l1In, h2, h3]
  by_cases h2 : a = 2
  · subst h2
    by_cases h3 : b = 2048
    · subst h3
      cases h4 : inB c 0 15 <;> simp (maxSteps := 400000) -implicitDefEqProofs [X_spec_l1Fault, retK_eq, eqFX_cons, decF, decB, s_spec_l1In, h4]
    · simp (maxSteps := 400000) -implicitDefEqProofs [X_spec_l1Fault, retK_eq, eqFX_cons, decF, decB, s_spec_l1In, h3]
  · simp (maxSteps := 400000) -implicitDefEqProofs [X_spec_l1Fault, retK_eq, eqFX_cons, decF, decB, s_spec_l1In, h0, h1, h2]

/-! ## What a decoder makes of a byte -/
def freshD (b : Int) : List Int × DecT := if b < 128 then ([b], dec0) else if inB b 194 223 = true then ([], ⟨1, 128, b - 192⟩) else if inB b 224 239 = true then ([], ⟨2, 2048, b - 224⟩) else ([65533], dec0)
def stepD (d : DecT) (b : Int) : List Int × DecT := if d.l = 0 then freshD b else if inB b 128 191 = false then (65533 :: (freshD b).1, (freshD b).2) else if d.l = 2 then ([], ⟨1, d.w, 64 * d.v + b - 128⟩) else if chB (64 * d.v + b - 128) = true ∧ d.w ≤ 64 * d.v + b - 128 then ([64 * d.v + b - 128], dec0) else ([65533], dec0)
theorem fresh_ok {b : Int} (h : 0 ≤ b ∧ b < 256) : decB (freshD b).2 = true ∧ (freshD b).1.length ≤ 1 := by
  unfold freshD
  split
  · exact ⟨show decB dec0 = true by decide, by simp⟩
  split
  · rename_i h1
    simp [inB] at h1
    refine ⟨?_, by simp⟩
    simp [decB, inB]; omega
  split
  · rename_i h1
    simp [inB] at h1
    refine ⟨?_, by simp⟩
    simp [decB, inB]; omega
  · exact ⟨show decB dec0 = true by decide, by simp⟩
theorem step_dec {d : DecT} {b : Int} (hd : decB d = true) (h : 0 ≤ b ∧ b < 256) : decB (stepD d b).2 = true ∧ (stepD d b).1.length ≤ 2 := by
  have hf := fresh_ok h
  unfold stepD
  split
  · exact ⟨hf.1, by omega⟩
  split
  · exact ⟨hf.1, by simp; exact hf.2⟩
  rename_i h0 h1
  split
  · rename_i h2
    refine ⟨?_, by simp⟩
    simp [inB] at h1
    rcases dec_facts hd with rfl | h3 | h3 | h3
    · exact absurd rfl h0
    · omega
    · simp [decB, inB]; omega
    · omega
  split
  · exact ⟨show decB dec0 = true by decide, by simp⟩
  · exact ⟨show decB dec0 = true by decide, by simp⟩
/-- A slice of numbers that is nil, or lies in a block of its own. -/
def SLN (l : List Int) (v : Value) (m : Mem) : Prop := (l = [] ∧ m = [] ∧ v = nil0) ∨ (v = slO 0 l.length ∧ m = [ownB eI6 l])
end Go.Ab
