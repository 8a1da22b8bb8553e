/- What the functions of the program answer, for all arguments that the theorems name as conditions. -/
import Derived.Test.YtkoahogalplhhaaS1Q1
namespace Go.Ab
set_option linter.unusedSimpArgs false
set_option linter.unusedVariables false
set_option maxHeartbeats 8000000

/-! ## Steps of the reference's decoder -/
theorem s_spec_l1Fresh (b : Int) (h : 0 ≤ b ∧ b < 256) : X_spec_l1Fresh [.int .i64 b] [] = some (.tuple #[slO 0 (freshD b).1.length, decV (freshD b).2], [ownB eI6 (freshD b).1]) := by
  have w1 : IntKind.i64.wrap (b - 192) = b - 192 := wrap_i64 (by omega) (by omega)
  have w2 : IntKind.i64.wrap (b - 224) = b - 224 := wrap_i64 (by omega) (by omega)
  have e0 : (⟨[], 1, true, true⟩ : Blk) = ownB eI6 [] := rfl
  have e1 : (⟨[.int .i64 b], 1, true, true⟩ : Blk) = ownB eI6 [b] := rfl
  have e2 : (⟨[.int .i64 65533], 1, true, true⟩ : Blk) = ownB eI6 [65533] := rfl
  unfold freshD
  by_cases c1 : b < 128
  · simp -implicitDefEqProofs [X_spec_l1Fresh, retK_eq, c1, e1, dec0]
  cases c2 : inB b 194 223
  · cases c3 : inB b 224 239
    · simp -implicitDefEqProofs [X_spec_l1Fresh, retK_eq, c1, c2, c3, e2, dec0, s_spec_l1In]
    · simp -implicitDefEqProofs [X_spec_l1Fresh, retK_eq, w2, c1, c2, c3, s_spec_l1In, e0]
  · simp -implicitDefEqProofs [X_spec_l1Fresh, retK_eq, w1, c1, c2, s_spec_l1In, e0]
theorem s_spec_l1Step (d : DecT) (b : Int) (hd : decB d = true) (h : 0 ≤ b ∧ b < 256) : X_spec_l1Step [decV d, .int .i64 b] [] = some (.tuple #[slO 0 (stepD d b).1.length, decV (stepD d b).2], [ownB eI6 (stepD d b).1]) := by
  have hf := s_spec_l1Fresh b h
  have hff := fresh_ok h
  have e0 : (⟨[], 1, true, true⟩ : Blk) = ownB eI6 [] := rfl
  by_cases c0 : d.l = 0
  · have e : stepD d b = freshD b := by simp [stepD, c0]
    rw [e]
    simp -implicitDefEqProofs [X_spec_l1Step, retK_eq, c0, hf]
  have hb : -100000 ≤ d.v ∧ d.v ≤ 100000 ∧ (d.l = 1 ∨ d.l = 2) := by
    rcases dec_facts hd with rfl | h3 | h3 | h3
    · exact absurd rfl c0
    · omega
    · omega
    · omega
  have w1 : IntKind.i64.wrap (64 * d.v) = 64 * d.v := wrap_i64 (by omega) (by omega)
  have w2 : IntKind.i64.wrap (64 * d.v + b) = 64 * d.v + b := wrap_i64 (by omega) (by omega)
  have w3 : IntKind.i64.wrap (64 * d.v + b - 128) = 64 * d.v + b - 128 := wrap_i64 (by omega) (by omega)
  have w4 : IntKind.i64.wrap 0 = 0 := wrap_i64 (by omega) (by omega)
  have w5 : IntKind.i64.wrap 1 = 1 := wrap_i64 (by omega) (by omega)
  cases c1 : inB b 128 191
  · have e : stepD d b = (65533 :: (freshD b).1, (freshD b).2) := by simp [stepD, c0, c1]
    rw [e]
    have b2 : fzO.rdB ⟨[.int .i64 65533], 1, true, true⟩ 0 1 = some [.int .i64 65533] := rfl
    have p1 := fun m n o c k o2 c2 => apL_sl (m := m) (sz := 1) (bytes := 8) (n := n) (o := o) (len := 1) (c := c) (n2 := k) (o2 := o2) (len2 := (freshD b).1.length) (c2 := c2) (by omega) (by omega)
    have b3 := rdM_own eI6 (freshD b).1 (freshD b).1.length (Nat.mul_one _).symm
    have b4 : (⟨.int .i64 65533 :: cellsE eI6 (freshD b).1, 1, true, true⟩ : Blk) = ownB eI6 (65533 :: (freshD b).1) := rfl
    have e5 : 1 + (freshD b).1.length = (freshD b).1.length + 1 := by omega
    simp -implicitDefEqProofs [X_spec_l1Step, retK_eq, c0, c1, hf, s_spec_l1In, p1, b2, b3, b4, e5]
  by_cases c2 : d.l = 2
  · have e : stepD d b = ([], ⟨1, d.w, 64 * d.v + b - 128⟩) := by simp [stepD, c1, c2]
    rw [e]
    simp -implicitDefEqProofs [X_spec_l1Step, retK_eq, c1, c2, w1, w2, w3, w5, s_spec_l1In, e0]
  have c6 : d.l = 1 := by omega
  by_cases c3 : chB (64 * d.v + b - 128) = true ∧ d.w ≤ 64 * d.v + b - 128
  · have e : stepD d b = ([64 * d.v + b - 128], dec0) := by simp [stepD, c0, c1, c2, c3]
    have e2 : (⟨[.int .i64 (64 * d.v + b - 128)], 1, true, true⟩ : Blk) = ownB eI6 [64 * d.v + b - 128] := rfl
    rw [e]
    simp -implicitDefEqProofs [X_spec_l1Step, retK_eq, c6, c1, c3.1, c3.2, w1, w2, w3, w4, s_spec_l1In, s_spec_l1Char, e2, dec0]
  · have e : stepD d b = ([65533], dec0) := by simp only [stepD, c0, c1, c2, c3, if_false]; rfl
    have e2 : (⟨[.int .i64 65533], 1, true, true⟩ : Blk) = ownB eI6 [65533] := rfl
    rw [e]
    cases c4 : chB (64 * d.v + b - 128)
    · simp -implicitDefEqProofs [X_spec_l1Step, retK_eq, c6, c1, c4, w1, w2, w3, w4, s_spec_l1In, s_spec_l1Char, e2, dec0]
    · have c5 : ¬ d.w ≤ 64 * d.v + b - 128 := fun q => c3 ⟨c4, q⟩
      simp -implicitDefEqProofs [X_spec_l1Step, retK_eq, c6, c1, c4, c5, w1, w2, w3, w4, s_spec_l1In, s_spec_l1Char, e2, dec0]
end Go.Ab
