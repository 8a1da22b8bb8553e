/- What the functions of the program answer, for all arguments that the theorems name as conditions. -/
import Derived.Test.YtkfbpdbopkdnjaaS3P0
namespace Go.Ab
set_option linter.unusedSimpArgs false
set_option linter.unusedVariables false
set_option maxHeartbeats 8000000

theorem s_impl_afterEscape (c : Int) (hc : 0 ≤ c ∧ c ≤ 65535) : ∃ vp mp, SLT (stepE c).2.ns vp mp 0 ∧ (stepE c).1.ns = [] ∧ X_impl_afterEscape [.int .i64 c] [] = some (.tuple #[actW (stepE c).1 nil0, parW (stepE c).2 vp], mp) := by
  have w1 : IntKind.i64.wrap 0 = 0 := wrap_i64 (by omega) (by omega)
  have w2 : IntKind.i64.wrap 1 = 1 := wrap_i64 (by omega) (by omega)
  have w3 : IntKind.i64.wrap 2 = 2 := wrap_i64 (by omega) (by omega)
  have hk0 : (⟨[.int .i64 0], 1, true, true⟩ : Blk) = ownB eI6 [0] := rfl
  unfold stepE
  by_cases h1 : c = 91
  · subst h1
    refine ⟨slO 0 1, [ownB eI6 [0]], .inr ⟨rfl, rfl⟩, rfl, ?_⟩
    simp -implicitDefEqProofs [X_impl_afterEscape, retK_eq, a0, hk0]
  by_cases h2 : c = 40
  · subst h2
    refine ⟨nil0, [], .inl ⟨rfl, rfl, .inl rfl⟩, rfl, ?_⟩
    simp -implicitDefEqProofs [X_impl_afterEscape, retK_eq, a0, w1, w2]
  by_cases h3 : c = 41
  · subst h3
    refine ⟨nil0, [], .inl ⟨rfl, rfl, .inl rfl⟩, rfl, ?_⟩
    simp -implicitDefEqProofs [X_impl_afterEscape, retK_eq, a0, w2, w3]
  cases h4 : inB c 48 126
  · refine ⟨nil0, [], .inl ⟨by simp [h1, h2, h3, p0], rfl, .inl rfl⟩, by simp [h1, h2, h3, a0], ?_⟩
    simp -implicitDefEqProofs [X_impl_afterEscape, retK_eq, a0, p0, s_impl_in, h1, h2, h3, h4]
  · refine ⟨nil0, [], .inl ⟨by simp [h1, h2, h3, p0], rfl, .inl rfl⟩, by simp [h1, h2, h3], ?_⟩
    simp -implicitDefEqProofs [X_impl_afterEscape, retK_eq, a0, p0, s_impl_in, h1, h2, h3, h4]
theorem s_impl_inParams (p : ParT) (c : Int) (hc : 0 ≤ c ∧ c ≤ 65535) (h0 : 1 ≤ p.ns.length) (h1 : p.ns.length ≤ 6) (h2 : ∀ x ∈ p.ns, 0 ≤ x ∧ x ≤ 999) : ∃ va vp m, X_impl_Parser_inParams [parW p (slO 0 p.ns.length), .int .i64 c] [ownB eI6 p.ns] = some (.tuple #[actW (stepN p c).1 va, parW (stepN p c).2 vp], m) ∧
    ((va = nil0 ∧ (stepN p c).1.ns = [] ∧ vp = slO 0 (stepN p c).2.ns.length ∧ m = [ownB eI6 (stepN p c).2.ns]) ∨ (va = nil0 ∧ (stepN p c).1.ns = [] ∧ vp = slO 1 (stepN p c).2.ns.length ∧ m = [⟨cellsE eI6 p.ns, 1, true, false⟩, ownB eI6 (stepN p c).2.ns]) ∨ (va = nil0 ∧ vp = nil0 ∧ (stepN p c).1.ns = [] ∧ (stepN p c).2.ns = [] ∧ m = [ownB eI6 p.ns]) ∨ (va = slO 0 (stepN p c).1.ns.length ∧ vp = nil0 ∧ (stepN p c).2.ns = [] ∧ m = [ownB eI6 (stepN p c).1.ns])) := by
  obtain ⟨L, hL⟩ : ∃ L, p.ns.length = L + 1 := ⟨p.ns.length - 1, by omega⟩
  have w0 : IntKind.i64.wrap ((p.ns.length : Int) - 1) = (L : Nat) := by rw [wrap_i64 (by omega) (by omega)]; omega
  unfold stepN
  cases i1 : inB c 48 57
  · by_cases i2 : c = 59
    · subst i2
      by_cases i3 : p.ns.length < 6
      · refine ⟨nil0, slO 1 (p.ns ++ [0]).length, _, ?_, .inr (.inl ⟨rfl, by simp [i3, a0], by simp [i3], rfl⟩)⟩
        have p1 := fun m n k cc => apL_sl (m := m) (sz := 1) (bytes := 8) (n := n) (o := 0) (len := p.ns.length) (c := cc) (n2 := k) (o2 := 0) (len2 := 1) (c2 := 1) (by omega) (by omega)
        have p3 := fun m n cs k => apB_own (E := eI6) (m := m) (l := p.ns) (n := n) (sz := 1) (cs := cs) (k := k) rfl
        have p4 : rdM (some ⟨[.int .i64 0], 1, true, true⟩) 0 1 = some [.int .i64 0] := rfl
        have hk : (⟨cellsE eI6 p.ns ++ [.int .i64 0], 1, true, true⟩ : Blk) = ownB eI6 (p.ns ++ [0]) := by
          rw [← mk_own2 eI6 _ _ 1 rfl]
          rfl
        have i3' : (p.ns.length : Int) < 6 := by omega
        simp (maxSteps := 400000) -implicitDefEqProofs [X_impl_Parser_inParams, retK_eq, s_impl_in, i1, i3, i3', a0, p1, p3, p4, hk]
      · have hge : ¬ (p.ns.length : Int) < 6 := by omega
        have i4 : inB 59 64 126 = false := by decide
        refine ⟨nil0, slO 0 p.ns.length, _, ?_, .inl ⟨rfl, by simp [i3, a0], by simp [i3], by simp [i3]; rfl⟩⟩
        simp (maxSteps := 400000) -implicitDefEqProofs [X_impl_Parser_inParams, retK_eq, s_impl_in, i1, i3, i4, hge, a0]
    · by_cases i3 : c = 63
      · subst i3
        refine ⟨nil0, slO 0 p.ns.length, [ownB eI6 p.ns], ?_, .inl ⟨rfl, rfl, rfl, rfl⟩⟩
        simp (maxSteps := 400000) -implicitDefEqProofs [X_impl_Parser_inParams, retK_eq, s_impl_in, i1, a0]
      · cases i4 : inB c 64 126
        · by_cases i5 : 126 < c
          · refine ⟨nil0, nil0, [ownB eI6 p.ns], ?_, .inr (.inr (.inl ⟨rfl, rfl, by simp [i2, i3, i5, a0], by simp [i2, i3, i5, p0], rfl⟩))⟩
            simp (maxSteps := 400000) -implicitDefEqProofs [X_impl_Parser_inParams, retK_eq, s_impl_in, i1, i2, i3, i4, i5, a0, p0]
          · refine ⟨nil0, slO 0 p.ns.length, [ownB eI6 p.ns], ?_, .inl ⟨rfl, by simp [i2, i3, i5, a0], by simp [i2, i3, i5], by simp [i2, i3, i5]⟩⟩
            simp (maxSteps := 400000) -implicitDefEqProofs [X_impl_Parser_inParams, retK_eq, s_impl_in, i1, i2, i3, i4, i5, a0]
        · refine ⟨slO 0 p.ns.length, nil0, [ownB eI6 p.ns], ?_, .inr (.inr (.inr ⟨by simp [i2, i3], rfl, by simp [i2, i3, p0], by simp [i2, i3]⟩))⟩
          simp (maxSteps := 400000) -implicitDefEqProofs [X_impl_Parser_inParams, retK_eq, s_impl_in, i1, i2, i3, i4, a0, p0]
  · have hg := gt_in h2 (i := L) (by omega)
    have hcb : 48 ≤ c ∧ c ≤ 57 := by simp [inB] at i1; exact i1
    have w1 : IntKind.i64.wrap (10 * gt p.ns L) = 10 * gt p.ns L := wrap_i64 (by omega) (by omega)
    have w2 : IntKind.i64.wrap (10 * gt p.ns L + c) = 10 * gt p.ns L + c := wrap_i64 (by omega) (by omega)
    have w3 : IntKind.i64.wrap (10 * gt p.ns L + c - 48) = 10 * gt p.ns L + c - 48 := wrap_i64 (by omega) (by omega)
    have hx := fun n o cc => ixa_sl (sz := 1) .i64 (n := n) (o := o) (len := p.ns.length) (c := cc) (j := (L : Int)) (by omega) (by omega)
    simp only [Int.toNat_natCast] at hx
    have hc1 := cellI .i64 p.ns L (by omega)
    have hy := lay_setI .i64 p.ns L (min (10 * gt p.ns L + c - 48) 999) (by omega)
    have ed : p.ns.set L (min (10 * gt p.ns L + c - 48) 999) = dig p.ns c := by
      unfold dig
      rw [hL, Nat.add_sub_cancel]
    have el : (dig p.ns c).length = p.ns.length := by simp [dig]
    rw [ed] at hy
    refine ⟨nil0, slO 0 p.ns.length, [ownB eI6 (dig p.ns c)], ?_, .inl ⟨rfl, rfl, by simp [el], rfl⟩⟩
    have b1 : L + 1 ≤ p.ns.length := by omega
    simp (maxSteps := 400000) -implicitDefEqProofs [X_impl_Parser_inParams, retK_eq, s_impl_in, i1, a0, w0, w1, w2, w3, hx, hc1, hy, b1]
end Go.Ab
