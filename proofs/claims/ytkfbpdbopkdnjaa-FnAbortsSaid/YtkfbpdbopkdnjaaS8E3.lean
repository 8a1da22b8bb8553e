/- What the functions of the program answer, for all arguments that the theorems name as conditions. -/
import Derived.Test.YtkfbpdbopkdnjaaS8E2
namespace Go.Ab
set_option linter.unusedSimpArgs false
set_option linter.unusedVariables false
set_option maxHeartbeats 40000000

/-! ## Sequences that are drawn -/
def seqOk (c : List Int) : Prop := c.length ≤ 100 ∧ ∀ x ∈ c, 0 ≤ x ∧ x < 256
theorem seq_str (s : ByteArray) (h : s.size ≤ 100) : seqOk (sInts s) := ⟨by rw [sInts_len]; exact h, sInts_bd s⟩
theorem seq_one (xs : List Int) (h : xs.all (fun x => decide (0 ≤ x ∧ x < 256)) = true) {x : Int} (hx : x ∈ xs) : seqOk [x] := by
  refine ⟨by simp, fun y hy => ?_⟩
  rw [List.all_eq_true] at h
  have := h x hx
  simp at this hy
  subst hy
  exact this
theorem sz_mk (a : Array UInt8) : (ByteArray.mk a).size = a.size := rfl
theorem nat_of {x n : Int} (h : 0 ≤ x ∧ x < n) : ∃ j : Nat, x = j ∧ (j : Int) < n := ⟨x.toNat, by omega, by omega⟩
abbrev SeqR (l : List Int) (a : Int) : Prop := ∃ (c : List Int) (b : Int), seqOk c ∧ a ≤ b ∧ b ≤ a + 10 ∧ X_spec_l4Sequence [pt 0] [srcM l a] = some (slO 1 c.length, [srcM l b, ownB eI6 c])
section
variable (l : List Int) (a : Int) (hl : bytesOk l) (h0 : 0 ≤ a) (h1 : a < 900000000)
include hl h0 h1
theorem seq_a (hn : nx l a 10 = 0 ∨ nx l a 10 = 1 ∨ nx l a 10 = 2) : SeqR l a := by
  have n1 := s_l1Next l a 10 hl ⟨by omega, by omega⟩
  have k1 := fun x y z u v w => s_pick6 l (a + 1) x y z u v w hl ⟨by omega, by omega⟩
  have hm := pk_mem hl (a := a + 1) ⟨by omega, by omega⟩ (xs := [97, 98, 120, 228, 113, 32]) (by simp)
  have hq := seq_one _ (by decide) hm
  have e : (⟨[.int .i64 (pk l (a + 1) [97, 98, 120, 228, 113, 32])], 1, true, true⟩ : Blk) = ownB eI6 [pk l (a + 1) [97, 98, 120, 228, 113, 32]] := rfl
  refine ⟨[pk l (a + 1) [97, 98, 120, 228, 113, 32]], a + 1 + 1, hq, by omega, by omega, ?_⟩
  rcases hn with h | h | h <;> rw [h] at n1 <;> simp (maxSteps := 1000000) -implicitDefEqProofs [X_spec_l4Sequence, retK_eq, cutK_eq, n1, k1, e]
theorem seq_b (hn : nx l a 10 = 3) : SeqR l a := by
  have n1 := s_l1Next l a 10 hl ⟨by omega, by omega⟩
  have k1 := fun x y z u v w t r s => s_pick9 l (a + 1) x y z u v w t r s hl ⟨by omega, by omega⟩
  have hm := pk_mem hl (a := a + 1) ⟨by omega, by omega⟩ (xs := [7, 8, 9, 10, 13, 14, 15, 24, 127]) (by simp)
  have hq := seq_one _ (by decide) hm
  have e : (⟨[.int .i64 (pk l (a + 1) [7, 8, 9, 10, 13, 14, 15, 24, 127])], 1, true, true⟩ : Blk) = ownB eI6 [pk l (a + 1) [7, 8, 9, 10, 13, 14, 15, 24, 127]] := rfl
  refine ⟨[pk l (a + 1) [7, 8, 9, 10, 13, 14, 15, 24, 127]], a + 1 + 1, hq, by omega, by omega, ?_⟩
  rw [hn] at n1
  simp (maxSteps := 1000000) -implicitDefEqProofs [X_spec_l4Sequence, retK_eq, cutK_eq, n1, k1, e]
theorem seq_c (hn : nx l a 10 = 4) : SeqR l a := by
  have n1 := s_l1Next l a 10 hl ⟨by omega, by omega⟩
  rw [hn] at n1
  obtain ⟨j1, e1, f1⟩ := nat_of (nx_bd hl (a := a + 1) (n := 12) ⟨by omega, by omega⟩ (by omega))
  have m1 := s_l1Next l (a + 1) 12 hl ⟨by omega, by omega⟩
  rw [e1] at m1
  have x1 := fun n o cc => ixa_sl (sz := 1) .i64 (n := n) (o := o) (len := 12) (c := cc) (j := (j1 : Int)) (by omega) (by omega)
  simp only [Int.toNat_natCast] at x1
  obtain ⟨s1, z1, c1⟩ := str_pick [⟨#[99]⟩, ⟨#[68]⟩, ⟨#[69]⟩, ⟨#[72]⟩, ⟨#[77]⟩, ⟨#[55]⟩, ⟨#[56]⟩, ⟨#[40, 48]⟩, ⟨#[40, 66]⟩, ⟨#[41, 48]⟩, ⟨#[40, 85]⟩, ⟨#[35]⟩] 20 (by rfl) j1 (by simp only [List.length_cons, List.length_nil]; omega)
  simp only [List.map] at c1
  have v0 : 1 + s1.size ≤ 4611686018427387904 := by omega
  have hs : (⟨#[27]⟩ ++ s1 : ByteArray).size ≤ 100 := by simp [ByteArray.size_append, sz_mk]; omega
  have hL := fun b => s_l4SeqL l b (⟨#[27]⟩ ++ s1) hs
  refine ⟨sInts (⟨#[27]⟩ ++ s1), a + 1 + 1, seq_str _ hs, by omega, by omega, ?_⟩
  simp (maxSteps := 1000000) -implicitDefEqProofs [X_spec_l4Sequence, retK_eq, cutK_eq, n1, hL, ByteArray.size_append, sz_mk, m1, x1, c1, v0]
theorem seq_d (hn : nx l a 10 = 5) : SeqR l a := by
  have n1 := s_l1Next l a 10 hl ⟨by omega, by omega⟩
  rw [hn] at n1
  have y1 := s_l1Next l (a + 1) 4 hl ⟨by omega, by omega⟩
  have b1 := nx_bd hl (a := a + 1) (n := 4) ⟨by omega, by omega⟩ (by omega)
  have w1 : IntKind.i64.wrap (1 + nx l (a + 1) 4) = 1 + nx l (a + 1) 4 := wrap_i64 (by omega) (by omega)
  obtain ⟨d1, g1, u1⟩ := s_l1Digits (1 + nx l (a + 1) 4) (by omega) (by omega)
  have y2 := s_l1Next l (a + 1 + 1) 4 hl ⟨by omega, by omega⟩
  have b2 := nx_bd hl (a := a + 1 + 1) (n := 4) ⟨by omega, by omega⟩ (by omega)
  have w2 : IntKind.i64.wrap (1 + nx l (a + 1 + 1) 4) = 1 + nx l (a + 1 + 1) 4 := wrap_i64 (by omega) (by omega)
  obtain ⟨d2, g2, u2⟩ := s_l1Digits (1 + nx l (a + 1 + 1) 4) (by omega) (by omega)
  have v0 : 1 + 1 ≤ 4611686018427387904 := by omega
  have hs : ((⟨#[27, 91]⟩ ++ d1 ++ ⟨#[59]⟩) ++ d2 ++ ⟨#[72]⟩ : ByteArray).size ≤ 100 := by simp [ByteArray.size_append, sz_mk]; omega
  have hL := fun b => s_l4SeqL l b ((⟨#[27, 91]⟩ ++ d1 ++ ⟨#[59]⟩) ++ d2 ++ ⟨#[72]⟩) hs
  refine ⟨sInts ((⟨#[27, 91]⟩ ++ d1 ++ ⟨#[59]⟩) ++ d2 ++ ⟨#[72]⟩), a + 1 + 1 + 1, seq_str _ hs, by omega, by omega, ?_⟩
  simp (maxSteps := 1000000) -implicitDefEqProofs [X_spec_l4Sequence, retK_eq, cutK_eq, n1, hL, ByteArray.size_append, sz_mk, y1, y2, w1, w2, u1, u2, g1, g2, v0]
theorem seq_e (hn : nx l a 10 = 6) : SeqR l a := by
  have n1 := s_l1Next l a 10 hl ⟨by omega, by omega⟩
  rw [hn] at n1
  obtain ⟨j1, e1, f1⟩ := nat_of (nx_bd hl (a := a + 1) (n := 8) ⟨by omega, by omega⟩ (by omega))
  have m1 := s_l1Next l (a + 1) 8 hl ⟨by omega, by omega⟩
  rw [e1] at m1
  have x1 := fun n o cc => ixa_sl (sz := 1) .i64 (n := n) (o := o) (len := 8) (c := cc) (j := (j1 : Int)) (by omega) (by omega)
  simp only [Int.toNat_natCast] at x1
  obtain ⟨s1, z1, c1⟩ := str_pick [⟨#[]⟩, ⟨#[49]⟩, ⟨#[55]⟩, ⟨#[51, 49]⟩, ⟨#[48]⟩, ⟨#[50, 55]⟩, ⟨#[50, 50]⟩, ⟨#[55, 59, 51, 50]⟩] 20 (by rfl) j1 (by simp only [List.length_cons, List.length_nil]; omega)
  simp only [List.map] at c1
  have v0 : 2 + s1.size ≤ 4611686018427387904 := by omega
  have v1 : 2 + s1.size + 1 ≤ 4611686018427387904 := by omega
  have hs : (⟨#[27, 91]⟩ ++ s1 ++ ⟨#[109]⟩ : ByteArray).size ≤ 100 := by simp [ByteArray.size_append, sz_mk]; omega
  have hL := fun b => s_l4SeqL l b (⟨#[27, 91]⟩ ++ s1 ++ ⟨#[109]⟩) hs
  refine ⟨sInts (⟨#[27, 91]⟩ ++ s1 ++ ⟨#[109]⟩), a + 1 + 1, seq_str _ hs, by omega, by omega, ?_⟩
  simp (maxSteps := 1000000) -implicitDefEqProofs [X_spec_l4Sequence, retK_eq, cutK_eq, n1, hL, ByteArray.size_append, sz_mk, m1, x1, c1, v0, v1]
theorem seq_f (hn : nx l a 10 = 7) : SeqR l a := by
  have n1 := s_l1Next l a 10 hl ⟨by omega, by omega⟩
  rw [hn] at n1
  obtain ⟨j1, e1, f1⟩ := nat_of (nx_bd hl (a := a + 1) (n := 5) ⟨by omega, by omega⟩ (by omega))
  have m1 := s_l1Next l (a + 1) 5 hl ⟨by omega, by omega⟩
  rw [e1] at m1
  have x1 := fun n o cc => ixa_sl (sz := 1) .i64 (n := n) (o := o) (len := 5) (c := cc) (j := (j1 : Int)) (by omega) (by omega)
  simp only [Int.toNat_natCast] at x1
  obtain ⟨s1, z1, c1⟩ := str_pick [⟨#[54]⟩, ⟨#[55]⟩, ⟨#[54]⟩, ⟨#[55]⟩, ⟨#[57]⟩] 20 (by rfl) j1 (by simp only [List.length_cons, List.length_nil]; omega)
  simp only [List.map] at c1
  obtain ⟨j2, e2, f2⟩ := nat_of (nx_bd hl (a := a + 1 + 1) (n := 2) ⟨by omega, by omega⟩ (by omega))
  have m2 := s_l1Next l (a + 1 + 1) 2 hl ⟨by omega, by omega⟩
  rw [e2] at m2
  have x2 := fun n o cc => ixa_sl (sz := 1) .i64 (n := n) (o := o) (len := 2) (c := cc) (j := (j2 : Int)) (by omega) (by omega)
  simp only [Int.toNat_natCast] at x2
  obtain ⟨s2, z2, c2⟩ := str_pick [⟨#[104]⟩, ⟨#[108]⟩] 20 (by rfl) j2 (by simp only [List.length_cons, List.length_nil]; omega)
  simp only [List.map] at c2
  have v0 : 3 + s1.size ≤ 4611686018427387904 := by omega
  have v1 : 3 + s1.size + s2.size ≤ 4611686018427387904 := by omega
  have hs : (⟨#[27, 91, 63]⟩ ++ s1 ++ s2 : ByteArray).size ≤ 100 := by simp [ByteArray.size_append, sz_mk]; omega
  have hL := fun b => s_l4SeqL l b (⟨#[27, 91, 63]⟩ ++ s1 ++ s2) hs
  refine ⟨sInts (⟨#[27, 91, 63]⟩ ++ s1 ++ s2), a + 1 + 1 + 1, seq_str _ hs, by omega, by omega, ?_⟩
  simp (maxSteps := 1000000) -implicitDefEqProofs [X_spec_l4Sequence, retK_eq, cutK_eq, n1, hL, ByteArray.size_append, sz_mk, m1, x1, c1, m2, x2, c2, v0, v1]
theorem seq_g (hn : nx l a 10 = 8) : SeqR l a := by
  have n1 := s_l1Next l a 10 hl ⟨by omega, by omega⟩
  rw [hn] at n1
  obtain ⟨j1, e1, f1⟩ := nat_of (nx_bd hl (a := a + 1) (n := 10) ⟨by omega, by omega⟩ (by omega))
  have m1 := s_l1Next l (a + 1) 10 hl ⟨by omega, by omega⟩
  rw [e1] at m1
  have x1 := fun n o cc => ixa_sl (sz := 1) .i64 (n := n) (o := o) (len := 10) (c := cc) (j := (j1 : Int)) (by omega) (by omega)
  simp only [Int.toNat_natCast] at x1
  obtain ⟨s1, z1, c1⟩ := str_pick [⟨#[50, 59, 51, 114]⟩, ⟨#[114]⟩, ⟨#[52, 104]⟩, ⟨#[52, 108]⟩, ⟨#[51, 103]⟩, ⟨#[103]⟩, ⟨#[115]⟩, ⟨#[117]⟩, ⟨#[49, 59, 50, 59, 51, 59, 52, 59, 53, 59, 54, 59, 55, 72]⟩, ⟨#[57, 57, 57, 57, 57, 65]⟩] 20 (by rfl) j1 (by simp only [List.length_cons, List.length_nil]; omega)
  simp only [List.map] at c1
  have v0 : 2 + s1.size ≤ 4611686018427387904 := by omega
  have hs : (⟨#[27, 91]⟩ ++ s1 : ByteArray).size ≤ 100 := by simp [ByteArray.size_append, sz_mk]; omega
  have hL := fun b => s_l4SeqL l b (⟨#[27, 91]⟩ ++ s1) hs
  refine ⟨sInts (⟨#[27, 91]⟩ ++ s1), a + 1 + 1, seq_str _ hs, by omega, by omega, ?_⟩
  simp (maxSteps := 1000000) -implicitDefEqProofs [X_spec_l4Sequence, retK_eq, cutK_eq, n1, hL, ByteArray.size_append, sz_mk, m1, x1, c1, v0]
theorem seq_h (hn : nx l a 10 = 9) : SeqR l a := by
  have n1 := s_l1Next l a 10 hl ⟨by omega, by omega⟩
  rw [hn] at n1
  have y1 := s_l1Next l (a + 1) 4 hl ⟨by omega, by omega⟩
  have b1 := nx_bd hl (a := a + 1) (n := 4) ⟨by omega, by omega⟩ (by omega)
  obtain ⟨d1, g1, u1⟩ := s_l1Digits (nx l (a + 1) 4) (by omega) (by omega)
  obtain ⟨j2, e2, f2⟩ := nat_of (nx_bd hl (a := a + 1 + 1) (n := 17) ⟨by omega, by omega⟩ (by omega))
  have m2 := s_l1Next l (a + 1 + 1) 17 hl ⟨by omega, by omega⟩
  rw [e2] at m2
  have x2 := fun n o cc => ixa_sl (sz := 1) .i64 (n := n) (o := o) (len := 17) (c := cc) (j := (j2 : Int)) (by omega) (by omega)
  simp only [Int.toNat_natCast] at x2
  obtain ⟨s2, z2, c2⟩ := str_pick [⟨#[65]⟩, ⟨#[66]⟩, ⟨#[67]⟩, ⟨#[68]⟩, ⟨#[69]⟩, ⟨#[70]⟩, ⟨#[71]⟩, ⟨#[100]⟩, ⟨#[74]⟩, ⟨#[75]⟩, ⟨#[76]⟩, ⟨#[77]⟩, ⟨#[80]⟩, ⟨#[64]⟩, ⟨#[88]⟩, ⟨#[83]⟩, ⟨#[84]⟩] 20 (by rfl) j2 (by simp only [List.length_cons, List.length_nil]; omega)
  simp only [List.map] at c2
  have v0 : 2 + 1 + s2.size ≤ 4611686018427387904 := by omega
  have v1 : 3 + s2.size ≤ 4611686018427387904 := by omega
  have hs : (⟨#[27, 91]⟩ ++ d1 ++ s2 : ByteArray).size ≤ 100 := by simp [ByteArray.size_append, sz_mk]; omega
  have hL := fun b => s_l4SeqL l b (⟨#[27, 91]⟩ ++ d1 ++ s2) hs
  refine ⟨sInts (⟨#[27, 91]⟩ ++ d1 ++ s2), a + 1 + 1 + 1, seq_str _ hs, by omega, by omega, ?_⟩
  simp (maxSteps := 1000000) -implicitDefEqProofs [X_spec_l4Sequence, retK_eq, cutK_eq, n1, hL, ByteArray.size_append, sz_mk, y1, u1, g1, m2, x2, c2, v0, v1]
theorem s_l4Sequence : SeqR l a := by
  have hb := nx_bd hl (a := a) (n := 10) ⟨by omega, by omega⟩ (by omega)
  by_cases k0 : nx l a 10 ≤ 2
  · exact seq_a l a hl h0 h1 (by omega)
  by_cases k3 : nx l a 10 = 3
  · exact seq_b l a hl h0 h1 k3
  by_cases k4 : nx l a 10 = 4
  · exact seq_c l a hl h0 h1 k4
  by_cases k5 : nx l a 10 = 5
  · exact seq_d l a hl h0 h1 k5
  by_cases k6 : nx l a 10 = 6
  · exact seq_e l a hl h0 h1 k6
  by_cases k7 : nx l a 10 = 7
  · exact seq_f l a hl h0 h1 k7
  by_cases k8 : nx l a 10 = 8
  · exact seq_g l a hl h0 h1 k8
  · exact seq_h l a hl h0 h1 (by omega)
end
end Go.Ab
