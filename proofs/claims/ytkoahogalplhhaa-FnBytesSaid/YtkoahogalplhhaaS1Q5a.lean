/- What the functions of the program answer, for all arguments that the theorems name as conditions. -/
import Derived.Test.YtkoahogalplhhaaS1B1
import Derived.Test.YtkoahogalplhhaaS1E1
namespace Go.Ab
set_option linter.unusedSimpArgs false
set_option linter.unusedVariables false
set_option maxHeartbeats 40000000

/-! ## Characters as bytes -/
def encB (x : Int) : List Int := if x < 128 then [x] else if x < 2048 then [192 + x / 64, 128 + x % 64] else [224 + x / 4096, 128 + x / 64 % 64, 128 + x % 64]
theorem encB_len (x : Int) : (encB x).length ≤ 3 := by unfold encB; split; simp; split <;> simp
theorem s_spec_l1Encode (x : Int) (h0 : 0 ≤ x) (h1 : x ≤ 65535) : X_spec_l1Encode [.int .i64 x] [] = some (slO 0 (encB x).length, [ownB eU8 (encB x)]) := by
  have e1 : x.tdiv 64 = x / 64 := Int.tdiv_eq_ediv_of_nonneg h0
  have e2 : x.tdiv 4096 = x / 4096 := Int.tdiv_eq_ediv_of_nonneg h0
  have e3 : x.tmod 64 = x % 64 := Int.tmod_eq_emod_of_nonneg h0
  have e4 : (x / 64).tmod 64 = x / 64 % 64 := Int.tmod_eq_emod_of_nonneg (by omega)
  have w1 : IntKind.i64.wrap (x / 64) = x / 64 := wrap_i64 (by omega) (by omega)
  have w2 : IntKind.i64.wrap (x / 4096) = x / 4096 := wrap_i64 (by omega) (by omega)
  have w3 : IntKind.i64.wrap (192 + x / 64) = 192 + x / 64 := wrap_i64 (by omega) (by omega)
  have w4 : IntKind.i64.wrap (128 + x % 64) = 128 + x % 64 := wrap_i64 (by omega) (by omega)
  have w5 : IntKind.i64.wrap (224 + x / 4096) = 224 + x / 4096 := wrap_i64 (by omega) (by omega)
  have w6 : IntKind.i64.wrap (128 + x / 64 % 64) = 128 + x / 64 % 64 := wrap_i64 (by omega) (by omega)
  have u4 : IntKind.u8.wrap (128 + x % 64) = 128 + x % 64 := wrap_u8' (by omega) (by omega)
  have u6 : IntKind.u8.wrap (128 + x / 64 % 64) = 128 + x / 64 % 64 := wrap_u8' (by omega) (by omega)
  by_cases c1 : x < 128
  · have u1 : IntKind.u8.wrap x = x := wrap_u8' (by omega) (by omega)
    simp -implicitDefEqProofs [X_spec_l1Encode, retK_eq, encB, c1, u1]
    rfl
  · by_cases c2 : x < 2048
    · have u2 : IntKind.u8.wrap (192 + x / 64) = 192 + x / 64 := wrap_u8' (by omega) (by omega)
      simp -implicitDefEqProofs [X_spec_l1Encode, retK_eq, encB, c1, c2, e1, e3, w1, w3, w4, u2, u4]
      rfl
    · have u3 : IntKind.u8.wrap (224 + x / 4096) = 224 + x / 4096 := wrap_u8' (by omega) (by omega)
      simp -implicitDefEqProofs [X_spec_l1Encode, retK_eq, encB, c1, c2, e1, e2, e3, e4, w1, w2, w4, w5, w6, u3, u4, u6]
      rfl
theorem s_impl_encode (x : Int) (h0 : 0 ≤ x) (h1 : x ≤ 65535) : X_impl_encode [.int .i64 x] [] = some (slO 0 (encB x).length, [ownB eU8 (encB x)]) := by
  have e1 := shr_div (a := x) 6 (by omega)
  have e2 := shr_div (a := x) 12 (by omega)
  have e3 := and_mask (a := x) 6 h0 (by omega) (by omega)
  have e4 := and_mask (a := x / 64) 6 (by omega) (by omega) (by omega)
  simp only [Nat.reducePow, Nat.reduceSub, Int.cast_ofNat_Int] at e1 e2 e3 e4
  have w3 : IntKind.i64.wrap (192 + x / 64) = 192 + x / 64 := wrap_i64 (by omega) (by omega)
  have w4 : IntKind.i64.wrap (128 + x % 64) = 128 + x % 64 := wrap_i64 (by omega) (by omega)
  have w5 : IntKind.i64.wrap (224 + x / 4096) = 224 + x / 4096 := wrap_i64 (by omega) (by omega)
  have w6 : IntKind.i64.wrap (128 + x / 64 % 64) = 128 + x / 64 % 64 := wrap_i64 (by omega) (by omega)
  have u4 : IntKind.u8.wrap (128 + x % 64) = 128 + x % 64 := wrap_u8' (by omega) (by omega)
  have u6 : IntKind.u8.wrap (128 + x / 64 % 64) = 128 + x / 64 % 64 := wrap_u8' (by omega) (by omega)
  by_cases c1 : x < 128
  · have u1 : IntKind.u8.wrap x = x := wrap_u8' (by omega) (by omega)
    simp -implicitDefEqProofs [X_impl_encode, retK_eq, encB, c1, u1]
    rfl
  · by_cases c2 : x < 2048
    · have u2 : IntKind.u8.wrap (192 + x / 64) = 192 + x / 64 := wrap_u8' (by omega) (by omega)
      simp -implicitDefEqProofs [X_impl_encode, retK_eq, encB, c1, c2, e1, e3, w3, w4, u2, u4]
      rfl
    · have u3 : IntKind.u8.wrap (224 + x / 4096) = 224 + x / 4096 := wrap_u8' (by omega) (by omega)
      simp -implicitDefEqProofs [X_impl_encode, retK_eq, encB, c1, c2, e1, e2, e3, e4, w4, w5, w6, u3, u4, u6]
      rfl
theorem encB_bd {x : Int} (h0 : 0 ≤ x) (h1 : x ≤ 65535) : ∀ y ∈ encB x, 0 ≤ y ∧ y < 256 := by
  intro y hy
  unfold encB at hy
  split at hy
  · simp at hy; omega
  split at hy
  · simp at hy; omega
  · simp at hy; omega
def allCh (l : List Int) : Bool := l.all chB
def encL : List Int → List Int
  | [] => []
  | c :: r => encB c ++ encL r
theorem ch_bd {x : Int} (h : chB x = true) : 0 ≤ x ∧ x ≤ 65535 := by simp [chB, inB] at h; omega
abbrev nilQ : Value := .slice none 0 0
theorem encL_len (l : List Int) : (encL l).length ≤ 3 * l.length := by
  induction l with
  | nil => simp [encL]
  | cons c r ih =>
    have := encB_len c
    simp only [encL, List.length_append, List.length_cons]
    omega
theorem encL_bd (l : List Int) (h : allCh l = true) : ∀ y ∈ encL l, 0 ≤ y ∧ y < 256 := by
  induction l with
  | nil => intro y hy; simp [encL] at hy
  | cons c r ih =>
    intro y hy
    simp [allCh] at h
    simp only [encL] at hy
    rcases List.mem_append.1 hy with hy | hy
    · have := ch_bd h.1
      exact encB_bd this.1 this.2 y hy
    · exact ih (by simp [allCh]; exact h.2) y hy
end Go.Ab
