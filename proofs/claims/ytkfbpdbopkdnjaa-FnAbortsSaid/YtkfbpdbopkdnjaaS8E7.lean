/- What the functions of the program answer, for all arguments that the theorems name as conditions. -/
import Derived.Test.YtkfbpdbopkdnjaaS8E6
import Derived.Test.YtkfbpdbopkdnjaaS8P5
namespace Go.Ab
set_option linter.unusedSimpArgs false
set_option linter.unusedVariables false
set_option maxHeartbeats 40000000

/-! ## Frozen answers: what is drawn, and the steps of both -/
theorem s_pick14 (l : List Int) (a x0 x1 x2 x3 x4 x5 x6 x7 x8 x9 x10 x11 x12 x13 : Int) (hl : bytesOk l) (ha : atOk a) : X_spec_l1Pick [pt 0, .slice (some ⟨1, 0, none⟩) 14 14] [srcM l a, ⟨[.int .i64 x0, .int .i64 x1, .int .i64 x2, .int .i64 x3, .int .i64 x4, .int .i64 x5, .int .i64 x6, .int .i64 x7, .int .i64 x8, .int .i64 x9, .int .i64 x10, .int .i64 x11, .int .i64 x12, .int .i64 x13], 1, true, true⟩] = some (.int .i64 (pk l a [x0, x1, x2, x3, x4, x5, x6, x7, x8, x9, x10, x11, x12, x13]), [srcM l (a + 1), ⟨[.int .i64 x0, .int .i64 x1, .int .i64 x2, .int .i64 x3, .int .i64 x4, .int .i64 x5, .int .i64 x6, .int .i64 x7, .int .i64 x8, .int .i64 x9, .int .i64 x10, .int .i64 x11, .int .i64 x12, .int .i64 x13], 1, true, true⟩]) := s_pickG l a [x0, x1, x2, x3, x4, x5, x6, x7, x8, x9, x10, x11, x12, x13] hl ha (by simp)
theorem d_StepParser (l : List Int) (hl : bytesOk l) (m : Mem) : ∃ (p : ParT) (c : Int), p.ns.length ≤ 10 ∧ icall X_spec_DrawStepParser [frS eU8 l] m = some (.tuple #[parV p, .int .i64 c], m) := by
  obtain ⟨p, v, b, m', hp, h0, h1, hs, h⟩ := s_l4Draw l hl
  have k1 := fun x0 x1 x2 x3 x4 x5 x6 x7 x8 x9 x10 x11 x12 x13 => s_pick14 l b x0 x1 x2 x3 x4 x5 x6 x7 x8 x9 x10 x11 x12 x13 hl ⟨by omega, by omega⟩
  refine ⟨p, pk l b [27, 91, 40, 53, 59, 63, 109, 72, 10, 24, 127, 228, 32, 65536], hp, icall_all ?_ m⟩
  rcases hs with ⟨e, rfl, rfl⟩ | ⟨rfl, rfl⟩
  · have ev : frS eI6 p.ns = roS 0 [] := by rw [e]; rfl
    simp (maxSteps := 1000000) -implicitDefEqProofs [X_spec_DrawStepParser, retK_eq, s_l1Source, h, k1, ev]
  · simp (maxSteps := 1000000) -implicitDefEqProofs [X_spec_DrawStepParser, retK_eq, s_l1Source, h, k1]
abbrev sprV (k : Int) (a : ActT) (p : ParT) : Value := .agg #[.int .i64 k, .int .i64 a.k, .int .i64 a.c, .int .i64 a.s, .bool a.lead, frS eI6 a.ns, .int .i64 p.k, .int .i64 p.s, .bool p.lead, frS eI6 p.ns]
theorem z_impl_bad (p : ParT) (c : Int) (hl : p.ns.length < 1000000000) (h : ¬ (parF p = 0 ∧ chB c = true)) (m : Mem) : icall X_impl_StepParser [parV p, .int .i64 c] m = some (sprV (if parF p = 0 then 3 else parF p) a0 p0, m) := by
  have h1 := s_impl_StepParser_bad p c hl h
  exact icall_all (by simp -implicitDefEqProofs [h1, a0, p0, frS_nil]) m
theorem z_spec_bad (p : ParT) (c : Int) (hl : p.ns.length < 1000000000) (h : ¬ (parF p = 0 ∧ chB c = true)) (m : Mem) : icall X_spec_StepParser [parV p, .int .i64 c] m = some (sprV (if parF p = 0 then 3 else parF p) a0 p0, m) := by
  have h1 := s_spec_StepParser_bad p c hl h
  exact icall_all (by simp -implicitDefEqProofs [h1, a0, p0, frS_nil]) m
theorem z_of {X : List Value → Mem → Option VM} {p : ParT} {c : Int} {a : ActT} {r : ParT} {va vp : Value} {mm : Mem} (hs : HF a.ns r.ns va vp mm) (h1 : X [parV p, .int .i64 c] [] = some (sprW a r va vp, mm)) (m : Mem) : icall X [parV p, .int .i64 c] m = some (sprV 0 a r, m) := by
  refine icall_all ?_ m
  obtain ⟨ak, ac, sa, al, an⟩ := a
  obtain ⟨rk, rs, rl, rn⟩ := r
  simp only [HF] at hs
  rcases hs with ⟨rfl, rfl, rfl, rfl, rfl⟩ | ⟨rfl, rfl, rfl, rfl, rfl⟩ | ⟨rfl, rfl, rfl, rfl⟩ | ⟨rfl, rfl, rfl, rfl⟩ <;> simp -implicitDefEqProofs [h1, frS_nil]
theorem z_impl_ok (p : ParT) (c : Int) (hl : p.ns.length < 1000000000) (h1 : parF p = 0) (h2 : chB c = true) (m : Mem) : icall X_impl_StepParser [parV p, .int .i64 c] m = some (sprV 0 (stepP p c).1 (stepP p c).2, m) := by
  obtain ⟨va, vp, mm, hs, h⟩ := s_impl_StepParser p c hl h1 h2
  exact z_of hs h m
theorem z_spec_ok (p : ParT) (c : Int) (hl : p.ns.length < 1000000000) (h1 : parF p = 0) (h2 : chB c = true) (m : Mem) : icall X_spec_StepParser [parV p, .int .i64 c] m = some (sprV 0 (stepP p c).1 (stepP p c).2, m) := by
  obtain ⟨va, vp, mm, hs, h⟩ := s_spec_StepParser p c hl h1 h2
  exact z_of hs h m
theorem s_Equal0 : X_slices_Equal_int64_int64 [roS 0 [], roS 0 []] [] = some (.bool true, []) := by
  have h : L_slices_Equal_int64_int64 0 QQ 0 [roS 0 [], roS 0 [], .int .i64 0, .int .i64 0] [] = some (.bool true, []) := by
    obtain ⟨q, hq⟩ : ∃ n, QQ = n + 1 := ⟨QQ - 1, by unfold QQ; omega⟩
    rw [hq]
    simp +contextual -implicitDefEqProofs [L_slices_Equal_int64_int64, retK_eq, cutK_eq]
  simp +contextual -implicitDefEqProofs [X_slices_Equal_int64_int64, retK_eq, cutK_eq, h]
abbrev parZ : Value := .agg #[.int .i64 0, .int .i64 0, .bool false, roS 0 []]
theorem s_SameParsers0 : X_impl_SameParsers [parZ, parZ] [] = some (.bool true, []) := by
  simp -implicitDefEqProofs [X_impl_SameParsers, retK_eq, s_Equal0]
end Go.Ab
