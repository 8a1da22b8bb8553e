/- What the functions of the program answer, for all arguments that the theorems name as conditions. -/
import Derived.Test.YtkfbpdbopkdnjaaS9Q7
namespace Go.Ab
set_option linter.unusedSimpArgs false
set_option linter.unusedVariables false
set_option maxHeartbeats 40000000

/-! ## Frozen answers of both -/
abbrev decR (k : Int) (cs : List Int) (d : DecT) : Value := decW k (frS eI6 cs) d
theorem z_impl_DecodeMany_bad (d : DecT) (data : List Int) (h : ¬ (decB d = true ∧ data.length ≤ 2000)) (m : Mem) : icall X_impl_DecodeMany [decV d, frS eU8 data] m = some (decR (if decB d = true then 2 else 3) [] dec0, m) :=
  icall_all (by simp -implicitDefEqProofs [s_impl_DecodeMany_bad d data h, frS_nil]) m
theorem z_spec_DecodeMany_bad (d : DecT) (data : List Int) (h : ¬ (decB d = true ∧ data.length ≤ 2000)) (m : Mem) : icall X_spec_DecodeMany [decV d, frS eU8 data] m = some (decR (if decB d = true then 2 else 3) [] dec0, m) :=
  icall_all (by simp -implicitDefEqProofs [s_spec_DecodeMany_bad d data h, frS_nil]) m
theorem z_impl_DecodeMany (d : DecT) (data : List Int) (hd : decB d = true) (hl : data.length ≤ 2000) (hb : ∀ x ∈ data, 0 ≤ x ∧ x < 256) (m : Mem) : icall X_impl_DecodeMany [decV d, frS eU8 data] m = some (decR 0 (feedD d data).1 (feedD d data).2, m) :=
  icall_all (by simp -implicitDefEqProofs [s_impl_DecodeMany d data hd hl hb]) m
theorem z_spec_DecodeMany (d : DecT) (data : List Int) (hd : decB d = true) (hl : data.length ≤ 2000) (hb : ∀ x ∈ data, 0 ≤ x ∧ x < 256) (m : Mem) : icall X_spec_DecodeMany [decV d, frS eU8 data] m = some (decR 0 (feedD d data).1 (feedD d data).2, m) := by
  obtain ⟨v, mm, hs, h⟩ := s_spec_DecodeMany d data hd hl hb
  generalize (feedD d data).1 = cs at *
  refine icall_all ?_ m
  rcases hs with ⟨rfl, rfl, rfl⟩ | ⟨rfl, rfl⟩ <;> simp -implicitDefEqProofs [h, frS_nil]
abbrev encR (k : Int) (bs : List Int) : Value := .agg #[.int .i64 k, frS eU8 bs]
def encK (l : List Int) : Int := if l.length ≤ 400 then (if allCh l = true then 0 else 3) else 2
def encX (l : List Int) : List Int := if l.length ≤ 400 ∧ allCh l = true then encL l else []
theorem z_impl_EncodeAll (l : List Int) (hl : l.length ≤ 500) (m : Mem) : icall X_impl_EncodeAll [frS eI6 l] m = some (encR (encK l) (encX l), m) := by
  have h := s_impl_EncodeAll l hl
  refine icall_all ?_ m
  by_cases h1 : l.length ≤ 400
  · cases h2 : allCh l <;> simp only [h1, h2, if_true, if_false] at h <;> simp -implicitDefEqProofs [h, encK, encX, h1, h2, frS_nil]
  · simp only [h1, if_false] at h
    simp -implicitDefEqProofs [h, encK, encX, h1, frS_nil]
theorem z_spec_EncodeAll (l : List Int) (hl : l.length ≤ 500) (m : Mem) : icall X_spec_EncodeAll [frS eI6 l] m = some (encR (encK l) (encX l), m) := by
  have h := s_spec_EncodeAll l hl
  refine icall_all ?_ m
  by_cases h1 : l.length ≤ 400
  · cases h2 : allCh l <;> simp only [h1, h2, if_true, if_false] at h <;> simp -implicitDefEqProofs [h, encK, encX, h1, h2, frS_nil]
  · simp only [h1, if_false] at h
    simp -implicitDefEqProofs [h, encK, encX, h1, frS_nil]

/-! ## The plain law -/
theorem feed_app (a b : List Int) : ∀ d, feedD d (a ++ b) = ((feedD d a).1 ++ (feedD (feedD d a).2 b).1, (feedD (feedD d a).2 b).2) := by
  induction a with
  | nil => intro d; simp [feedD]
  | cons x r ih => intro d; simp [feedD, ih]
theorem feed_dec (l : List Int) : ∀ d, decB d = true → (∀ x ∈ l, 0 ≤ x ∧ x < 256) → decB (feedD d l).2 = true ∧ (feedD d l).1.length ≤ 2 * l.length := by
  induction l with
  | nil => intro d hd hb; exact ⟨hd, by simp [feedD]⟩
  | cons x r ih =>
    intro d hd hb
    obtain ⟨h1, h2⟩ := step_dec hd (hb x (by simp))
    obtain ⟨h3, h4⟩ := ih _ h1 (fun y hy => hb y (by simp [hy]))
    refine ⟨by simp only [feedD]; exact h3, ?_⟩
    simp only [feedD, List.length_append, List.length_cons]
    omega
theorem feed_enc {c : Int} (h : chB c = true) (r : List Int) : feedD dec0 (encB c ++ r) = (c :: (feedD dec0 r).1, (feedD dec0 r).2) := by
  have hb := ch_bd h
  have z : dec0.l = 0 := rfl
  by_cases c1 : c < 128
  · have e : encB c = [c] := by simp [encB, c1]
    have s : stepD dec0 c = ([c], dec0) := by simp [stepD, z, freshD, c1]
    rw [e]
    simp [feedD, s]
  by_cases c2 : c < 2048
  · have e : encB c = [192 + c / 64, 128 + c % 64] := by simp [encB, c1, c2]
    have s1 : stepD dec0 (192 + c / 64) = ([], ⟨1, 128, c / 64⟩) := by
      have q1 : ¬ 192 + c / 64 < 128 := by omega
      have q2 : inB (192 + c / 64) 194 223 = true := by simp [inB]; omega
      have q3 : 192 + c / 64 - 192 = c / 64 := by omega
      simp [stepD, z, freshD, q1, q2, q3]
    have s2 : stepD ⟨1, 128, c / 64⟩ (128 + c % 64) = ([c], dec0) := by
      have q2 : inB (128 + c % 64) 128 191 = true := by simp [inB]; omega
      have q3 : 64 * (c / 64) + (128 + c % 64) - 128 = c := by omega
      have q4 : (128 : Int) ≤ c := by omega
      simp [stepD, q2, q3, h, q4]
    rw [e]
    simp [feedD, s1, s2]
  · have e : encB c = [224 + c / 4096, 128 + c / 64 % 64, 128 + c % 64] := by simp [encB, c1, c2]
    have s1 : stepD dec0 (224 + c / 4096) = ([], ⟨2, 2048, c / 4096⟩) := by
      have q1 : ¬ 224 + c / 4096 < 128 := by omega
      have q2 : inB (224 + c / 4096) 194 223 = false := by simp [inB]; omega
      have q3 : inB (224 + c / 4096) 224 239 = true := by simp [inB]; omega
      have q4 : 224 + c / 4096 - 224 = c / 4096 := by omega
      simp [stepD, z, freshD, q1, q2, q3, q4]
    have s2 : stepD ⟨2, 2048, c / 4096⟩ (128 + c / 64 % 64) = ([], ⟨1, 2048, c / 64⟩) := by
      have q2 : inB (128 + c / 64 % 64) 128 191 = true := by simp [inB]; omega
      have q3 : 64 * (c / 4096) + (128 + c / 64 % 64) - 128 = c / 64 := by omega
      simp [stepD, q2, q3]
    have s3 : stepD ⟨1, 2048, c / 64⟩ (128 + c % 64) = ([c], dec0) := by
      have q2 : inB (128 + c % 64) 128 191 = true := by simp [inB]; omega
      have q3 : 64 * (c / 64) + (128 + c % 64) - 128 = c := by omega
      have q4 : (2048 : Int) ≤ c := by omega
      simp [stepD, q2, q3, h, q4]
    rw [e]
    simp [feedD, s1, s2, s3]
theorem feed_encL (l : List Int) (h : allCh l = true) : feedD dec0 (encL l) = (l, dec0) := by
  induction l with
  | nil => rfl
  | cons c r ih =>
    simp [allCh] at h
    have h2 := ih (by simp [allCh]; exact h.2)
    simp only [encL]
    rw [feed_enc h.1, h2]
end Go.Ab
