/- What the functions of the program answer, for all arguments that the theorems name as conditions. -/
import Derived.Test.YtkoahogalplhhaaS1Q0
namespace Go.Ab
set_option linter.unusedSimpArgs false
set_option linter.unusedVariables false
set_option maxHeartbeats 8000000

/-! ## Steps of a decoder -/
theorem apL_none {m : Mem} {sz bytes n o len c : Nat} (hk : len < 1000000000) (hb : bytes ≤ 100000) : apL m sz bytes (.slice (some ⟨n, o, none⟩) len c) (.slice none 0 0) = apB m m[n]? n o len sz [] 0 := by
  have h2 : (len + 0) * bytes ≤ 140737488355328 := Nat.le_trans (Nat.mul_le_mul (Nat.le_of_lt hk) hb) (by omega)
  show appendIn m sz bytes (.slice (some ⟨n, o, none⟩) len c) [] 0 = _
  unfold appendIn apB
  simp only
  cases hm : m[n]? with
  | none => rfl
  | some b =>
    simp only
    by_cases h : b.live = true ∧ b.own = true ∧ b.es = sz
    · rw [if_pos ⟨h.1, h.2.1, h.2.2, h2, by omega⟩, if_pos h]
      have hr : rd m n o (len * sz) = fzO.rdB b o (len * sz) := by
        unfold rd fzO.rdB
        split
        · rfl
        · rw [hm]
      rw [hr]
      cases fzO.rdB b o (len * sz) <;> rfl
    · rw [if_neg (fun q => h ⟨q.1, q.2.1, q.2.2.1⟩), if_neg h]
theorem s_impl_fresh (b : Int) (h : 0 ≤ b ∧ b < 256) : ∃ v m, SLN (freshD b).1 v m ∧ X_impl_fresh [.int .u8 b] [] = some (.tuple #[v, decV (freshD b).2], m) := by
  have w0 : IntKind.i64.wrap b = b := wrap_i64 (by omega) (by omega)
  have w1 : IntKind.i64.wrap (b - 192) = b - 192 := wrap_i64 (by omega) (by omega)
  have w2 : IntKind.i64.wrap (b - 224) = b - 224 := wrap_i64 (by omega) (by omega)
  have e1 : (⟨[.int .i64 b], 1, true, true⟩ : Blk) = ownB eI6 [b] := rfl
  have e2 : (⟨[.int .i64 65533], 1, true, true⟩ : Blk) = ownB eI6 [65533] := rfl
  unfold freshD
  by_cases c1 : b < 128
  · refine ⟨slO 0 1, [ownB eI6 [b]], .inr ⟨by simp [c1], by simp [c1]⟩, ?_⟩
    simp -implicitDefEqProofs [X_impl_fresh, retK_eq, w0, c1, e1, dec0]
  cases c2 : inB b 194 223
  · cases c3 : inB b 224 239
    · refine ⟨slO 0 1, [ownB eI6 [65533]], .inr ⟨by simp [c1], by simp [c1]⟩, ?_⟩
      simp -implicitDefEqProofs [X_impl_fresh, retK_eq, w0, c1, c2, c3, e2, dec0, s_impl_in]
    · refine ⟨nil0, [], .inl ⟨by simp [c1], rfl, rfl⟩, ?_⟩
      simp -implicitDefEqProofs [X_impl_fresh, retK_eq, w0, w2, c1, c2, c3, s_impl_in]
  · refine ⟨nil0, [], .inl ⟨by simp [c1], rfl, rfl⟩, ?_⟩
    simp -implicitDefEqProofs [X_impl_fresh, retK_eq, w0, w1, c1, c2, s_impl_in]
theorem s_impl_hear (d : DecT) (b : Int) (hd : decB d = true) (h : 0 ≤ b ∧ b < 256) : ∃ v m, SLN (stepD d b).1 v m ∧ X_impl_Decoder_hear [decV d, .int .u8 b] [] = some (.tuple #[v, decV (stepD d b).2], m) := by
  have w0 : IntKind.i64.wrap b = b := wrap_i64 (by omega) (by omega)
  obtain ⟨v, m, hs, hf⟩ := s_impl_fresh b h
  have hff := fresh_ok h
  by_cases c0 : d.l = 0
  · have e : stepD d b = freshD b := by simp [stepD, c0]
    rw [e]
    rcases hs with ⟨e1, rfl, rfl⟩ | ⟨rfl, rfl⟩
    · refine ⟨nil0, [], .inl ⟨e1, rfl, rfl⟩, ?_⟩
      simp -implicitDefEqProofs [X_impl_Decoder_hear, retK_eq, c0, hf]
    · refine ⟨_, _, .inr ⟨rfl, rfl⟩, ?_⟩
      simp -implicitDefEqProofs [X_impl_Decoder_hear, retK_eq, c0, hf]
  have hb : -100000 ≤ d.v ∧ d.v ≤ 100000 := by
    rcases dec_facts hd with rfl | h3 | h3 | h3
    · exact absurd rfl c0
    · omega
    · omega
    · omega
  have w1 : IntKind.i64.wrap (64 * d.v) = 64 * d.v := wrap_i64 (by omega) (by omega)
  have w2 : IntKind.i64.wrap (64 * d.v + b) = 64 * d.v + b := wrap_i64 (by omega) (by omega)
  have w3 : IntKind.i64.wrap (64 * d.v + b - 128) = 64 * d.v + b - 128 := wrap_i64 (by omega) (by omega)
  cases c1 : inB b 128 191
  · have e : stepD d b = (65533 :: (freshD b).1, (freshD b).2) := by simp [stepD, c0, c1]
    rw [e]
    have b1 : rdM (some ⟨[.int .i64 65533], 1, true, true⟩) 0 1 = some [.int .i64 65533] := rfl
    have b2 : fzO.rdB ⟨[.int .i64 65533], 1, true, true⟩ 0 1 = some [.int .i64 65533] := rfl
    have e2 : (⟨[.int .i64 65533], 1, true, true⟩ : Blk) = ownB eI6 [65533] := rfl
    rcases hs with ⟨e1, rfl, rfl⟩ | ⟨rfl, rfl⟩
    · have p1 := fun m n o c => apL_none (m := m) (sz := 1) (bytes := 8) (n := n) (o := o) (len := 1) (c := c) (by omega) (by omega)
      refine ⟨slO 0 1, [ownB eI6 [65533]], .inr ⟨by simp [e1], by simp [e1]⟩, ?_⟩
      simp -implicitDefEqProofs [X_impl_Decoder_hear, retK_eq, c0, c1, w0, hf, s_impl_in, p1, b2]
      rfl
    · have p1 := fun m n o c k o2 c2 => apL_sl (m := m) (sz := 1) (bytes := 8) (n := n) (o := o) (len := 1) (c := c) (n2 := k) (o2 := o2) (len2 := (freshD b).1.length) (c2 := c2) (by omega) (by omega)
      have b3 := rdM_own eI6 (freshD b).1 (freshD b).1.length (Nat.mul_one _).symm
      have b4 : (⟨.int .i64 65533 :: cellsE eI6 (freshD b).1, 1, true, true⟩ : Blk) = ownB eI6 (65533 :: (freshD b).1) := rfl
      refine ⟨slO 0 (1 + (freshD b).1.length), [ownB eI6 (65533 :: (freshD b).1)], .inr ⟨by simp; omega, rfl⟩, ?_⟩
      simp -implicitDefEqProofs [X_impl_Decoder_hear, retK_eq, c0, c1, w0, hf, s_impl_in, p1, b2, b3, b4]
  by_cases c2 : d.l = 2
  · have e : stepD d b = ([], ⟨1, d.w, 64 * d.v + b - 128⟩) := by simp [stepD, c1, c2]
    rw [e]
    refine ⟨nil0, [], .inl ⟨rfl, rfl, rfl⟩, ?_⟩
    simp -implicitDefEqProofs [X_impl_Decoder_hear, retK_eq, c1, c2, w0, w1, w2, w3, s_impl_in]
  by_cases c3 : chB (64 * d.v + b - 128) = true ∧ d.w ≤ 64 * d.v + b - 128
  · have e : stepD d b = ([64 * d.v + b - 128], dec0) := by simp [stepD, c0, c1, c2, c3]
    have e2 : (⟨[.int .i64 (64 * d.v + b - 128)], 1, true, true⟩ : Blk) = ownB eI6 [64 * d.v + b - 128] := rfl
    rw [e]
    refine ⟨slO 0 1, [ownB eI6 [64 * d.v + b - 128]], .inr ⟨rfl, rfl⟩, ?_⟩
    simp -implicitDefEqProofs [X_impl_Decoder_hear, retK_eq, c0, c1, c2, c3.1, c3.2, w0, w1, w2, w3, s_impl_in, s_impl_isChar, e2, dec0]
  · have e : stepD d b = ([65533], dec0) := by simp only [stepD, c0, c1, c2, c3, if_false]; rfl
    have e2 : (⟨[.int .i64 65533], 1, true, true⟩ : Blk) = ownB eI6 [65533] := rfl
    rw [e]
    refine ⟨slO 0 1, [ownB eI6 [65533]], .inr ⟨rfl, rfl⟩, ?_⟩
    cases c4 : chB (64 * d.v + b - 128)
    · simp -implicitDefEqProofs [X_impl_Decoder_hear, retK_eq, c0, c1, c2, c4, w0, w1, w2, w3, s_impl_in, s_impl_isChar, e2, dec0]
    · have c5 : ¬ d.w ≤ 64 * d.v + b - 128 := fun q => c3 ⟨c4, q⟩
      simp -implicitDefEqProofs [X_impl_Decoder_hear, retK_eq, c0, c1, c2, c4, c5, w0, w1, w2, w3, s_impl_in, s_impl_isChar, e2, dec0]
end Go.Ab
