/- What the functions of the program answer, for all arguments that the theorems name as conditions. -/
import Derived.Test.YtelkckbbelillaaS5G1b
import Derived.Test.YtelkckbbelillaaS5G4a
namespace Go.Ab
set_option linter.unusedSimpArgs false
set_option linter.unusedVariables false
set_option maxHeartbeats 4000000

theorem s_spec_l3Attr (n : Int) : X_spec_l3Attr [.int .i64 n] [] = some (.bool (atB n), []) := by
  simp +contextual -implicitDefEqProofs [X_spec_l3Attr, s_spec_l1In, retK_eq, atB]
theorem s_spec_l2Table (x : Int) : X_spec_l2Table [.int .i64 x] [] = some (.bool (inB x 1 3), []) := by
  simp +contextual -implicitDefEqProofs [X_spec_l2Table, retK_eq, s_spec_l1In]
theorem s_impl_Screen_rangeOk_1 (x : Int) : X_impl_Screen_rangeOk_1 [.int .i64 x] [] = some (.bool (!inB x 1 3), []) := by
  simp +contextual -implicitDefEqProofs [X_impl_Screen_rangeOk_1, retK_eq, s_impl_in]
def allT (l : List Int) : Bool := l.all fun x => inB x 1 3
theorem allT_cons (x : Int) (l : List Int) : allT (x :: l) = (inB x 1 3 && allT l) := rfl
theorem l_IndexFuncI (r : List Int) : ∀ (p : List Int) (q : Nat), r.length < q → (p ++ r).length < 1000000000 → ∃ n : Int, (allT r = true → n = -1) ∧ (allT r = false → 0 ≤ n) ∧ L_slices_IndexFunc_int64_int64 0 q 0 [frS eI6 (p ++ r), .func (.func 146) #[] #[], .int .i64 (p ++ r).length, .int .i64 p.length] [] = some (.int .i64 n, []) := by
  induction r with
  | nil =>
    intro p q hq hl
    obtain ⟨q, rfl⟩ : ∃ n, q = n + 1 := ⟨q - 1, by omega⟩
    refine ⟨-1, by simp, by simp [allT], ?_⟩
    simp +contextual -implicitDefEqProofs [L_slices_IndexFunc_int64_int64, retK_eq]
  | cons x r ih =>
    intro p q hq hl
    obtain ⟨q, rfl⟩ : ∃ n, q = n + 1 := ⟨q - 1, by omega⟩
    obtain ⟨n, h1, h2, h⟩ := ih (p ++ [x]) q (by simp at hq; omega) (by simpa using hl)
    simp at h
    have hx := ixa_mid eI6 (sz := 1) rfl .i64 p x r
    have hw := wrap_next (n := p.length) (by simp at hl; omega)
    refine ⟨if inB x 1 3 = true then n else p.length, ?_, ?_, ?_⟩
    · simp only [allT_cons, Bool.and_eq_true]
      rintro ⟨h3, h4⟩
      simp [h3, h1 h4]
    · cases hx : inB x 1 3
      · simp
      · simp [allT_cons, hx]
        exact h2
    · simp +contextual -implicitDefEqProofs [L_slices_IndexFunc_int64_int64, cf_slices_IndexFunc_int64_int64, retK_eq, cutK_eq, hx, hw, h, s_impl_Screen_rangeOk_1]
      cases inB x 1 3 <;> simp
theorem s_ContainsFuncI (l : List Int) (hl : l.length < 1000000000) : X_slices_ContainsFunc_int64_int64 [frS eI6 l, .func (.func 146) #[] #[]] [] = some (.bool (!allT l), []) := by
  obtain ⟨n, h1, h2, h⟩ := l_IndexFuncI l [] QQ (by unfold QQ; omega) (by simpa using hl)
  simp at h
  simp +contextual -implicitDefEqProofs [X_slices_ContainsFunc_int64_int64, X_slices_IndexFunc_int64_int64, cutK_eq, retK_eq, h]
  cases ha : allT l
  · simp [h2 ha]
  · simp [h1 ha]
theorem s_impl_first (a b : Int) : X_impl_first [frS eI6 [a, b]] [] = some (.int .i64 (if a = 0 then b else a), []) := by
  have h1 : ∀ q, L_impl_first 0 (q + 1) 0 [frS eI6 [a, b], .int .i64 2, .int .i64 2] [] = some (.int .i64 0, []) := by
    intro q
    simp +contextual -implicitDefEqProofs [L_impl_first, retK_eq, cutK_eq]
  have h2 : ∀ q, L_impl_first 0 (q + 2) 0 [frS eI6 [a, b], .int .i64 2, .int .i64 1] [] = some (.int .i64 b, []) := by
    intro q
    have hx := ixa_mid eI6 (sz := 1) rfl .i64 [a] b []
    simp at hx
    simp +contextual -implicitDefEqProofs [L_impl_first, retK_eq, cutK_eq, h1, hx, wrap_i64]
  have h3 : L_impl_first 0 QQ 0 [frS eI6 [a, b], .int .i64 2, .int .i64 0] [] = some (.int .i64 (if a = 0 then b else a), []) := by
    obtain ⟨q, hq⟩ : ∃ n, QQ = n + 3 := ⟨QQ - 3, by unfold QQ; omega⟩
    have hx := ixa_mid eI6 (sz := 1) rfl .i64 [] a [b]
    simp at hx
    rw [hq]
    simp +contextual -implicitDefEqProofs [L_impl_first, retK_eq, cutK_eq, h2, hx, wrap_i64]
    split <;> rfl
  simp +contextual -implicitDefEqProofs [X_impl_first, retK_eq, cutK_eq, h3]

def setB (l : List Int) : Bool := decide (l.length = 2) && allT l
def rngS (s : ScrT) : Bool := plB s.g.r s.g.w s.row s.col && (atB s.attr && (inB s.sr 0 5 && (inB s.sc 0 11 && (atB s.sa && (setB s.sets && (inB s.cs 0 1 && inB s.lc 0 999))))))
theorem s_impl_Screen_rangeOk (s : ScrT) (hs : s.small) (rest : List Value) : X_impl_Screen_rangeOk [scrP s rest] [] = some (.bool (rngS s), []) := by
  have h2 : X_slices_ContainsFunc_int64_int64 [frS eI6 s.sets, .func (.func 146) #[] #[]] [] = some (.bool (!allT s.sets), []) := s_ContainsFuncI s.sets hs.2.2
  have hp := s_impl_Grid_isPlace s.g s.row s.col
  by_cases hl : s.sets.length = 2
  · have hl' : (s.sets.length : Int) = 2 := by omega
    simp (maxSteps := 2000000) +contextual -implicitDefEqProofs [X_impl_Screen_rangeOk, retK_eq, cutK_eq, s_impl_in, s_impl_isAttr, h2, hp, hl, hl', rngS, setB]
    cases plB s.g.r s.g.w s.row s.col <;> cases atB s.attr <;> cases inB s.sr 0 5 <;> cases inB s.sc 0 11 <;> cases atB s.sa <;> cases allT s.sets <;> cases inB s.cs 0 1 <;> simp
  · have hl' : ¬ (s.sets.length : Int) = 2 := by omega
    simp (maxSteps := 2000000) +contextual -implicitDefEqProofs [X_impl_Screen_rangeOk, retK_eq, cutK_eq, s_impl_in, s_impl_isAttr, h2, hp, hl, hl', rngS, setB]
theorem ixa_two (a b : Int) : ixaX 1 (frS eI6 [a, b]) (.int .i64 0) = some (roP [.int .i64 a]) ∧ ixaX 1 (frS eI6 [a, b]) (.int .i64 1) = some (roP [.int .i64 b]) := by
  have h1 := ixa_mid eI6 (sz := 1) rfl .i64 [] a [b]
  have h2 := ixa_mid eI6 (sz := 1) rfl .i64 [a] b []
  simp at h1 h2
  exact ⟨h1, h2⟩
theorem s_spec_l5Ranges (s : ScrT) (hs : s.small) (rest : List Value) : X_spec_l5Ranges [scrP s rest] [] = some (.bool (rngS s), []) := by
  have hp := s_spec_l3Place s.g s.row s.col
  by_cases hl : s.sets.length = 2
  · obtain ⟨a, b, h⟩ : ∃ a b, s.sets = [a, b] := by
      match hh : s.sets, hl with
      | [a, b], _ => exact ⟨a, b, rfl⟩
    have hx := ixa_two a b
    simp (maxSteps := 2000000) +contextual -implicitDefEqProofs [X_spec_l5Ranges, retK_eq, cutK_eq, s_spec_l1In, s_spec_l2Table, s_spec_l3Attr, hp, h, hx.1, hx.2, rngS, setB, allT]
    cases plB s.g.r s.g.w s.row s.col; · simp
    cases atB s.attr; · simp
    cases inB s.sr 0 5; · simp
    cases inB s.sc 0 11; · simp
    cases atB s.sa; · simp
    cases inB a 1 3; · simp
    cases inB b 1 3; · simp
    cases inB s.cs 0 1; · simp
    simp
  · have hl' : ¬ (s.sets.length : Int) = 2 := by omega
    simp (maxSteps := 2000000) +contextual -implicitDefEqProofs [X_spec_l5Ranges, retK_eq, cutK_eq, s_spec_l1In, s_spec_l2Table, s_spec_l3Attr, hp, hl, hl', rngS, setB]
def regB (a b r : Int) : Bool := decide (0 ≤ a ∧ b < r ∧ (a < b ∨ (a = 0 ∧ b = r - 1)))
theorem s_spec_l5Region (a b r : Int) (h1 : 1 ≤ r) (h2 : r ≤ 6) : X_spec_l5Region [.int .i64 a, .int .i64 b, .int .i64 r] [] = some (.bool (regB a b r), []) := by
  have hw : IntKind.i64.wrap (r - 1) = r - 1 := wrap_i64 (by omega) (by omega)
  have n3 : (a < 0) = ¬(0 ≤ a) := by simp
  have n4 : (b ≤ a) = ¬(a < b) := by simp
  have n5 : (r ≤ b) = ¬(b < r) := by simp
  rcases Classical.propComplete (0 ≤ a) with h3 | h3 <;> rcases Classical.propComplete (a < b) with h4 | h4 <;> rcases Classical.propComplete (b < r) with h5 | h5 <;> rcases Classical.propComplete (a = 0) with h6 | h6 <;> rcases Classical.propComplete (b = r - 1) with h7 | h7 <;>
    simp -implicitDefEqProofs [X_spec_l5Region, retK_eq, cutK_eq, hw, h3, h4, h5, h6, h7, n3, n4, n5, regB] <;> (simp only [eq_iff_iff, iff_true, iff_false] at h3 h4 h5 h6 h7; omega)
theorem s_impl_Screen_last (s : ScrT) (h1 : szB s.g.r s.g.w = true) (rest : List Value) : X_impl_Screen_last [scrP s rest] [] = some (.tuple #[.int .i64 (s.g.r - 1), .int .i64 (s.g.w - 1)], []) := by
  have hb := szB_b h1
  have hw : IntKind.i64.wrap (s.g.r - 1) = s.g.r - 1 := wrap_i64 (by omega) (by omega)
  have hw2 : IntKind.i64.wrap (s.g.w - 1) = s.g.w - 1 := wrap_i64 (by omega) (by omega)
  simp +contextual -implicitDefEqProofs [X_impl_Screen_last, retK_eq, cutK_eq, hw, hw2]
theorem s_impl_Screen_isRegion (s : ScrT) (a b : Int) (h1 : szB s.g.r s.g.w = true) (rest : List Value) : X_impl_Screen_isRegion [scrP s rest, .int .i64 a, .int .i64 b] [] = some (.bool (regB a b s.g.r), []) := by
  have hl := s_impl_Screen_last s h1
  have n3 : (a < 0) = ¬(0 ≤ a) := by simp
  have n4 : (b ≤ a) = ¬(a < b) := by simp
  have n5 : (s.g.r - 1 < b) = ¬(b < s.g.r) := by simp; omega
  have n6 : (b ≤ s.g.r - 1) = (b < s.g.r) := by simp; omega
  rcases Classical.propComplete (0 ≤ a) with h3 | h3 <;> rcases Classical.propComplete (a < b) with h4 | h4 <;> rcases Classical.propComplete (b < s.g.r) with h5 | h5 <;> rcases Classical.propComplete (a = 0) with h6 | h6 <;> rcases Classical.propComplete (b = s.g.r - 1) with h7 | h7 <;>
    simp -implicitDefEqProofs [X_impl_Screen_isRegion, retK_eq, cutK_eq, hl, h3, h4, h5, h6, h7, n3, n4, n5, n6, regB] <;> (simp only [eq_iff_iff, iff_true, iff_false] at h3 h4 h5 h6 h7; omega)
theorem s_impl_Screen_inRegion (s : ScrT) (rest : List Value) : X_impl_Screen_inRegion [scrP s rest] [] = some (.bool (inB s.row s.top s.bot), []) := by
  simp +contextual -implicitDefEqProofs [X_impl_Screen_inRegion, retK_eq, cutK_eq, s_impl_in]
def frmS (s : ScrT) : Bool := regB s.top s.bot s.g.r && (decide ((s.tabs.length : Int) = s.g.w) && ((!s.late || (decide (s.col = s.g.w - 1) && s.wrp)) && (!s.org || inB s.row s.top s.bot)))
theorem s_impl_Screen_formOk (s : ScrT) (h1 : szB s.g.r s.g.w = true) (rest : List Value) : X_impl_Screen_formOk [scrP s rest] [] = some (.bool (frmS s), []) := by
  have hl := s_impl_Screen_last s h1
  have hr := s_impl_Screen_isRegion s s.top s.bot h1
  have hi := s_impl_Screen_inRegion s
  by_cases h3 : (s.tabs.length : Int) = s.g.w <;> by_cases h4 : s.col = s.g.w - 1 <;> cases h5 : s.late <;> cases h6 : s.org <;> cases h7 : s.wrp <;>
    (simp (maxSteps := 2000000) +contextual -implicitDefEqProofs [X_impl_Screen_formOk, retK_eq, cutK_eq, hl, hr, hi, h3, h4, h5, h6, h7, frmS] <;> cases regB s.top s.bot s.g.r <;> simp)
theorem s_spec_l5Form (s : ScrT) (h1 : szB s.g.r s.g.w = true) (rest : List Value) : X_spec_l5Form [scrP s rest] [] = some (.bool (frmS s), []) := by
  have hb := szB_b h1
  have hr := s_spec_l5Region s.top s.bot s.g.r (by omega) (by omega)
  have hw2 : IntKind.i64.wrap (s.g.w - 1) = s.g.w - 1 := wrap_i64 (by omega) (by omega)
  by_cases h3 : (s.tabs.length : Int) = s.g.w <;> by_cases h4 : s.col = s.g.w - 1 <;> cases h5 : s.late <;> cases h6 : s.org <;> cases h7 : s.wrp <;>
    (simp (maxSteps := 2000000) +contextual -implicitDefEqProofs [X_spec_l5Form, retK_eq, cutK_eq, s_spec_l1In, hr, hw2, h3, h4, h5, h6, h7, frmS] <;> cases regB s.top s.bot s.g.r <;> simp)
def faultS (s : ScrT) : Int := if faultG s.g = 0 then (if rngS s = true then (if frmS s = true then 0 else 1) else 3) else faultG s.g
theorem s_spec_l5Fault (s : ScrT) (hs : s.small) (rest : List Value) : X_spec_l5Fault [scrP s rest] [] = some (.int .i64 (faultS s), []) := by
  have h1 := s_spec_l3Fault s.g hs.1
  have h2 := s_spec_l5Ranges s hs
  by_cases h : faultG s.g = 0
  · have h3 := s_spec_l5Form s (szB_of h)
    cases h4 : rngS s <;> cases h5 : frmS s <;> simp +contextual -implicitDefEqProofs [X_spec_l5Fault, retK_eq, h, h1, h2, h3, h4, h5, faultS]
  · simp +contextual -implicitDefEqProofs [X_spec_l5Fault, retK_eq, h1, h2, h, faultS]
@[simp] theorem fz_twoI (k : Nat) (m : Mem) (a b : Int) : fzO (k + 1) m (some ⟨[.int .i64 a, .int .i64 b], 1, true, true⟩) 0 2 = some (frS eI6 [a, b]) := fzO_own eI6 k m [a, b]
theorem s_impl_ScreenFault (s : ScrT) (hs : s.small) : X_impl_ScreenFault [scrV s] [] = some (.int .i64 (faultS s), []) := by
  have h1 := s_impl_GridFault s.g hs.1
  have h2 := s_impl_Screen_rangeOk s hs
  have h0 := fun a b => s_impl_first a b
  by_cases h : faultG s.g = 0
  · have h3 := s_impl_Screen_formOk s (szB_of h)
    cases h4 : rngS s <;> cases h5 : frmS s <;> simp (maxSteps := 2000000) +contextual -implicitDefEqProofs [X_impl_ScreenFault, retK_eq, h, h0, h1, h2, h3, h4, h5, faultS, s_impl_unless, unl]
  · simp (maxSteps := 2000000) +contextual -implicitDefEqProofs [X_impl_ScreenFault, retK_eq, h0, h1, h2, h, faultS, s_impl_unless]
end Go.Ab
