/- What the functions of the program answer, for all arguments that the theorems name as conditions. -/
import Derived.Test.YtelkckbbelillaaS5G9a
import Derived.Test.YtelkckbbelillaaFC
namespace Go.Ab
set_option linter.unusedSimpArgs false
set_option linter.unusedVariables false
set_option maxHeartbeats 4000000

/-! ## Products of small numbers -/
theorem wrap_u64 {n : Int} (h : 0 ≤ n) (h' : n < 18446744073709551616) : IntKind.u64.wrap n = n := by
  unfold IntKind.wrap
  simp only [IntKind.bits, IntKind.signed, Bool.false_and, Bool.false_eq_true, if_false]
  omega
theorem and_u32 {a : Int} (h0 : 0 ≤ a) (h1 : a < 4294967296) : andI .u64 a 4294967295 = a := by
  unfold andI
  obtain ⟨x, rfl⟩ := Int.eq_ofNat_of_zero_le h0
  have hx : x < 4294967296 := by omega
  have e : (BitVec.ofInt IntKind.u64.bits (x : Int) &&& BitVec.ofInt IntKind.u64.bits 4294967295).toNat = x := by
    rw [show (4294967295 : Int) = ((2 ^ 32 - 1 : Nat) : Int) by rfl, BitVec.toNat_and, BitVec.ofInt_natCast, BitVec.ofInt_natCast, BitVec.toNat_ofNat, BitVec.toNat_ofNat]
    rw [Nat.mod_eq_of_lt (show x < 2 ^ IntKind.u64.bits from by show x < 2 ^ 64; omega), Nat.mod_eq_of_lt (show 2 ^ 32 - 1 < 2 ^ IntKind.u64.bits from by show 2 ^ 32 - 1 < 2 ^ 64; omega), Nat.and_two_pow_sub_one_eq_mod]
    exact Nat.mod_eq_of_lt (by omega)
  rw [e]
  exact wrap_u64 (by omega) (by omega)
theorem shr_u32 {a : Int} (h0 : 0 ≤ a) (h1 : a < 4294967296) : shrI .u64 a 32 = 0 := by
  unfold shrI
  have h := Int.fdiv_eq_ediv_of_nonneg a (b := (2 : Int) ^ min (32 : Int).toNat IntKind.u64.bits) (by decide)
  rw [h]
  show a / 4294967296 = 0
  omega
theorem s_bits_Mul64 (b : Int) (h0 : 0 ≤ b) (h1 : b < 1000000000) : X_math_bits_Mul64 [.int .u64 1, .int .u64 b] [] = some (.tuple #[.int .u64 0, .int .u64 b], []) := by
  have a1 := and_u32 h0 (by omega)
  have a2 := shr_u32 h0 (by omega)
  have a3 : andI .u64 1 4294967295 = 1 := and_u32 (by omega) (by omega)
  have a4 : shrI .u64 1 32 = 0 := shr_u32 (by omega) (by omega)
  have a5 : andI .u64 0 4294967295 = 0 := and_u32 (by omega) (by omega)
  have a6 : shrI .u64 0 32 = 0 := shr_u32 (by omega) (by omega)
  have w1 : IntKind.u64.wrap b = b := wrap_u64 h0 (by omega)
  have w0 : IntKind.u64.wrap 0 = 0 := wrap_u64 (by omega) (by omega)
  simp +contextual -implicitDefEqProofs [X_math_bits_Mul64, retK_eq, a1, a2, a3, a4, a5, a6, w1, w0]
theorem s_bits_Mul (b : Int) (h0 : 0 ≤ b) (h1 : b < 1000000000) : X_math_bits_Mul [.int .u64 1, .int .u64 b] [] = some (.tuple #[.int .u64 0, .int .u64 b], []) := by
  have h := s_bits_Mul64 b h0 h1
  simp +contextual -implicitDefEqProofs [X_math_bits_Mul, retK_eq, h]

/-! ## slices.Repeat of one cell -/
theorem l_Repeat (z o : CellT) : ∀ (d p q N : Nat), d = N - p → d < q → 1 ≤ p → p ≤ N → N < 1000000000 → L_slices_Repeat_impl_Cell_impl_Cell 0 q 0 [slO 0 N, .int .i64 p] [ownB eC (List.replicate p z ++ List.replicate (N - p) o)] = some (slO 0 N, [ownB eC (List.replicate N z)]) := by
  intro d
  induction d using Nat.strongRecOn with
  | _ d ih =>
    intro p q N hd hq hp hN hl
    obtain ⟨q, rfl⟩ : ∃ n, q = n + 1 := ⟨q - 1, by omega⟩
    rcases Nat.lt_or_ge p N with h1 | h1
    · have hw : IntKind.i64.wrap ((p : Int) + (min p (N - p) : Nat)) = ((p + min p (N - p) : Nat) : Int) := by rw [wrap_i64 (by omega) (by omega)]; simp
      have h := ih (N - (p + min p (N - p))) (by omega) (p + min p (N - p)) q N rfl (by omega) (by omega) (by omega) hl
      have hbd : ∀ d, bndX (some (.int .i64 (p : Int))) d = some p := fun d => by show (if (0 : Int) ≤ (p : Int) then some (p : Int).toNat else none) = some p; rw [if_pos (by omega)]; simp
      have s1 := sl_own (m := [ownB eC (List.replicate p z ++ List.replicate (N - p) o)]) (sz := 2) (n := 0) (o := 0) (len := N) (c := N) (a := p) (b := N) (lo := some (.int .i64 p)) (hi := none) rfl (hbd 0) rfl hN (Nat.le_refl _) h1
      have s2 := sl_own (m := [ownB eC (List.replicate p z ++ List.replicate (N - p) o)]) (sz := 2) (n := 0) (o := 0) (len := N) (c := N) (a := 0) (b := p) (lo := none) (hi := some (.int .i64 p)) rfl rfl (hbd N) (by omega) hN (by omega)
      simp at s1 s2
      have hc := cpL_own eC (m := [ownB eC (List.replicate p z ++ List.replicate (N - p) o)]) (sz := 2) (n := 0) (n2 := 0) (a := p) (a2 := 0) (dl := N - p) (sl := p) (c := N - p) (c2 := N) (l := List.replicate p z ++ List.replicate (N - p) o) (l2 := List.replicate p z ++ List.replicate (N - p) o) rfl rfl rfl (by simp) (by simp)
      have e : (List.replicate p z ++ List.replicate (N - p) o).take p ++ ((List.replicate p z ++ List.replicate (N - p) o).drop 0).take (min p (N - p)) ++ (List.replicate p z ++ List.replicate (N - p) o).drop (p + min p (N - p)) = List.replicate (p + min p (N - p)) z ++ List.replicate (N - (p + min p (N - p))) o := by
        rw [List.take_left' (by simp), List.drop_zero, List.take_append_of_le_length (by simp; omega), List.take_replicate, ← List.drop_drop, List.drop_left' (by simp), List.drop_replicate, ← List.replicate_append_replicate, List.append_assoc, List.append_assoc]
        congr 3
        · omega
        · omega
      rw [e] at hc
      simp only [Nat.zero_mul, List.set_cons_zero] at hc
      have h1' : (p : Int) < N := by omega
      simp -implicitDefEqProofs [L_slices_Repeat_impl_Cell_impl_Cell, retK_eq, cutK_eq, h1, h1', s1, s2, hc, hw, h]
      rw [Int.natCast_add] at h
      exact h
    · have e : p = N := by omega
      subst e
      simp -implicitDefEqProofs [L_slices_Repeat_impl_Cell_impl_Cell, retK_eq, cutK_eq]
theorem s_Repeat (z : CellT) (N : Nat) (hl : N < 1000000000) : X_slices_Repeat_impl_Cell_impl_Cell [frS eC [z], .int .i64 N] [] = some (slO 0 N, [ownB eC (List.replicate N z)]) := by
  have hm := s_bits_Mul N (by omega) (by omega)
  have w1 : IntKind.u64.wrap 1 = 1 := wrap_u64 (by omega) (by omega)
  have w2 : IntKind.u64.wrap N = N := wrap_u64 (by omega) (by omega)
  have w3 : IntKind.i64.wrap N = N := wrap_i64 (by omega) (by omega)
  have hg : ¬ (9223372036854775807 : Int) < N := by omega
  have hc := cpL_ro eC (m := [ownB eC (List.replicate N ⟨0, 0⟩)]) (sz := 2) (n := 0) (a := 0) (dl := N) (c := N) (l := List.replicate N ⟨0, 0⟩) (l2 := [z]) rfl rfl (by simp)
  rcases Nat.eq_zero_or_pos N with h0 | h0
  · subst h0
    have h : L_slices_Repeat_impl_Cell_impl_Cell 0 QQ 0 [slO 0 0, .int .i64 0] [ownB eC []] = some (slO 0 0, [ownB eC []]) := by
      obtain ⟨q, hq⟩ : ∃ n, QQ = n + 1 := ⟨QQ - 1, by unfold QQ; omega⟩
      rw [hq]
      simp -implicitDefEqProofs [L_slices_Repeat_impl_Cell_impl_Cell, retK_eq, cutK_eq]
    have w0 : IntKind.u64.wrap 0 = 0 := wrap_u64 (by omega) (by omega)
    have w4 : IntKind.i64.wrap 0 = 0 := wrap_i64 (by omega) (by omega)
    have hk := fun m => mkX_eq m 2 16 [.int .i64 0, .int .i64 0] (l := 0) (c := 0) (by omega) (by omega) (by omega) (by omega)
    have e0 : (⟨[], 2, true, true⟩ : Blk) = ownB eC [] := rfl
    simp at hc hm
    simp at hk
    simp -implicitDefEqProofs [X_slices_Repeat_impl_Cell_impl_Cell, retK_eq, cutK_eq, hm, w1, w0, w4, hk, e0, hc, h]
  · have h := l_Repeat z ⟨0, 0⟩ (N - 1) 1 QQ N rfl (by unfold QQ; omega) (by omega) (by omega) hl
    have e1 : min 1 N = 1 := by omega
    simp [e1] at hc
    simp at h
    have hn : ¬ (N : Int) < 0 := by omega
    simp -implicitDefEqProofs [X_slices_Repeat_impl_Cell_impl_Cell, retK_eq, cutK_eq, hm, w1, w2, w3, hg, hc, h, hl, hn]
@[simp] theorem fz_oneC (k : Nat) (m : Mem) (a b : Int) : fzO (k + 1) m (some ⟨[.int .i64 a, .int .i64 b], 2, true, true⟩) 0 1 = some (frS eC [⟨a, b⟩]) := fzO_own eC k m [⟨a, b⟩]
theorem s_blanks (a : Int) (N : Nat) (hl : N < 1000000000) : X_impl_blanks [.int .i64 N, .int .i64 a] [] = some (slO 0 N, [ownB eC (List.replicate N ⟨32, a⟩)]) := by
  have h := s_Repeat ⟨32, a⟩ N hl
  simp -implicitDefEqProofs [X_impl_blanks, retK_eq, h]

end Go.Ab
