/- What the functions of the program answer, for all arguments that the theorems name as conditions. -/
import Derived.Test.YtkfbpdbopkdnjaaS3RB
import Derived.Test.YtkfbpdbopkdnjaaS3B1i
import Derived.Test.YtkfbpdbopkdnjaaS3B1f
namespace Go.Ab
set_option linter.unusedSimpArgs false
set_option linter.unusedVariables false
set_option maxHeartbeats 8000000

/-! ## ReadBy of both -/
abbrev nilR : Value := .slice none 0 0
def readL (who : Int) : List EvT → List (List Int) → List Int
  | e :: l, b :: rd => (if e.k = 3 ∧ e.w = who then b else []) ++ readL who l rd
  | _, _ => []
def sumL : List (List Int) → Nat
  | [] => 0
  | x :: r => x.length + sumL r
theorem l_impl_ReadBy (who : Int) (r : List EvT) : ∀ (p : List EvT) (pb rb : List (List Int)) (out : List Int) (q : Nat), p.length = pb.length → r.length = rb.length → r.length < q → (p ++ r).length < 1100000 → out.length + sumL rb < 1000000000 → L_impl_ReadBy 0 q 0 [frS eBS (pb ++ rb), .int .i64 who, ptr 0, slO 1 out.length, frS eEv (p ++ r), .int .i64 (p ++ r).length, .int .i64 p.length] [blk [.int .i64 0, nilR], ownB eU8 out] = some (.agg #[.int .i64 0, slO 0 (out ++ readL who r rb).length], [ownB eU8 (out ++ readL who r rb)]) := by
  induction r with
  | nil =>
    intro p pb rb out q hp hr hq hl ho
    obtain ⟨q, rfl⟩ : ∃ n, q = n + 1 := ⟨q - 1, by omega⟩
    simp -implicitDefEqProofs [L_impl_ReadBy, retK_eq, readL]
  | cons x r ih =>
    intro p pb rb out q hp hr hq hl ho
    obtain ⟨q, rfl⟩ : ∃ n, q = n + 1 := ⟨q - 1, by omega⟩
    cases rb with
    | nil => simp at hr
    | cons b rb =>
      rw [sumL] at ho
      have hx := ixa_mid eEv (sz := 13) rfl .i64 p x r
      have hxb := ixa_mid eBS (sz := 1) rfl .i64 pb b rb
      rw [← hp] at hxb
      have hw := wrap_next (n := p.length) (by simp at hl; omega)
      have hr' : r.length = rb.length := by simpa using hr
      by_cases hk : x.k = 3 ∧ x.w = who
      · have h := ih (p ++ [x]) (pb ++ [b]) rb (out ++ b) q (by simp [hp]) hr' (by simp at hq; omega) (by simpa using hl) (by simp; omega)
        have p3 := fun m n cs k => apB_own (E := eU8) (m := m) (l := out) (n := n) (sz := 1) (cs := cs) (k := k) rfl
        have p1 := fun m n o c => apL_frS (E := eU8) (m := m) (sz := 1) (bytes := 1) (n := n) (o := o) (len := out.length) (c := c) (l := b) rfl (by omega) (by omega)
        have k2 : (⟨cellsE eU8 out ++ cellsE eU8 b, 1, true, true⟩ : Blk) = ownB eU8 (out ++ b) := mk_own2 eU8 _ _ 1 rfl
        have er : readL who (x :: r) (b :: rb) = b ++ readL who r rb := by rw [readL, if_pos hk]
        rw [er]
        simp at h
        simp (maxSteps := 400000) -implicitDefEqProofs [L_impl_ReadBy, retK_eq, cutK_eq, hx, hxb, hw, hk.1, hk.2, p1, p3, k2, h]
      · have h := ih (p ++ [x]) (pb ++ [b]) rb out q (by simp [hp]) hr' (by simp at hq; omega) (by simpa using hl) (by omega)
        have er : readL who (x :: r) (b :: rb) = readL who r rb := by rw [readL, if_neg hk]; rfl
        rw [er]
        simp at h
        by_cases hk1 : x.k = 3
        · have hk2 : ¬ x.w = who := fun e => hk ⟨hk1, e⟩
          simp (maxSteps := 400000) -implicitDefEqProofs [L_impl_ReadBy, retK_eq, cutK_eq, hx, hxb, hw, hk1, hk2, h]
        · simp (maxSteps := 400000) -implicitDefEqProofs [L_impl_ReadBy, retK_eq, cutK_eq, hx, hxb, hw, hk1, h]
def rbK (l : List EvT) (rd : List (List Int)) : Int := if l.length ≤ 40 then (if rd.length = l.length then 0 else 1) else 2
theorem s_impl_ReadBy (l : List EvT) (rd : List (List Int)) (who : Int) (hl : l.length < 1100000) (hs : sumL rd < 1000000000) : X_impl_ReadBy [frS eEv l, frS eBS rd, .int .i64 who] [] = if rbK l rd = 0 then some (.agg #[.int .i64 0, slO 0 (readL who l rd).length], [ownB eU8 (readL who l rd)]) else some (.agg #[.int .i64 (rbK l rd), nilR], []) := by
  by_cases h1 : l.length ≤ 40
  · have h1' : (l.length : Int) ≤ 40 := by omega
    by_cases h2 : rd.length = l.length
    · have h := l_impl_ReadBy who l [] [] rd [] QQ rfl h2.symm (by unfold QQ; omega) (by simpa using hl) (by simpa using hs)
      have ek : rbK l rd = 0 := by unfold rbK; rw [if_pos h1, if_pos h2]
      have e0 : (⟨[], 1, true, true⟩ : Blk) = ownB eU8 [] := rfl
      rw [ek]
      simp at h
      simp (maxSteps := 400000) -implicitDefEqProofs [X_impl_ReadBy, retK_eq, cutK_eq, s_impl_unless, s_impl_first, unl, h1', h2, e0, h]
    · have ek : rbK l rd = 1 := by unfold rbK; rw [if_pos h1, if_neg h2]
      have h2' : ¬ (rd.length : Int) = l.length := by omega
      rw [ek]
      simp (maxSteps := 400000) -implicitDefEqProofs [X_impl_ReadBy, retK_eq, cutK_eq, s_impl_unless, s_impl_first, unl, h1', h2, h2']
  · have h1' : ¬ (l.length : Int) ≤ 40 := by omega
    have ek : rbK l rd = 2 := by unfold rbK; rw [if_neg h1]
    rw [ek]
    simp (maxSteps := 400000) -implicitDefEqProofs [X_impl_ReadBy, retK_eq, cutK_eq, s_impl_unless, s_impl_first, unl, h1']
theorem l_spec_ReadBy (who : Int) (r : List EvT) : ∀ (p : List EvT) (pb rb : List (List Int)) (out : List Int) (q : Nat), p.length = pb.length → r.length = rb.length → r.length < q → (p ++ r).length < 1100000 → out.length + sumL rb < 1000000000 → L_spec_ReadBy 0 q 0 [frS eEv (p ++ r), frS eBS (pb ++ rb), .int .i64 who, ptr 0, slO 1 out.length, .int .i64 p.length] [blk [.int .i64 0, nilR], ownB eU8 out] = some (.agg #[.int .i64 0, slO 0 (out ++ readL who r rb).length], [ownB eU8 (out ++ readL who r rb)]) := by
  induction r with
  | nil =>
    intro p pb rb out q hp hr hq hl ho
    obtain ⟨q, rfl⟩ : ∃ n, q = n + 1 := ⟨q - 1, by omega⟩
    simp -implicitDefEqProofs [L_spec_ReadBy, retK_eq, readL]
  | cons x r ih =>
    intro p pb rb out q hp hr hq hl ho
    obtain ⟨q, rfl⟩ : ∃ n, q = n + 1 := ⟨q - 1, by omega⟩
    cases rb with
    | nil => simp at hr
    | cons b rb =>
      rw [sumL] at ho
      have hx := ixa_mid eEv (sz := 13) rfl .i64 p x r
      have hxb := ixa_mid eBS (sz := 1) rfl .i64 pb b rb
      rw [← hp] at hxb
      have hw := wrap_next (n := p.length) (by simp at hl; omega)
      have hr' : r.length = rb.length := by simpa using hr
      by_cases hk : x.k = 3 ∧ x.w = who
      · have h := ih (p ++ [x]) (pb ++ [b]) rb (out ++ b) q (by simp [hp]) hr' (by simp at hq; omega) (by simpa using hl) (by simp; omega)
        have p3 := fun m n cs k => apB_own (E := eU8) (m := m) (l := out) (n := n) (sz := 1) (cs := cs) (k := k) rfl
        have p1 := fun m n o c => apL_frS (E := eU8) (m := m) (sz := 1) (bytes := 1) (n := n) (o := o) (len := out.length) (c := c) (l := b) rfl (by omega) (by omega)
        have k2 : (⟨cellsE eU8 out ++ cellsE eU8 b, 1, true, true⟩ : Blk) = ownB eU8 (out ++ b) := mk_own2 eU8 _ _ 1 rfl
        have er : readL who (x :: r) (b :: rb) = b ++ readL who r rb := by rw [readL, if_pos hk]
        rw [er]
        simp at h
        simp (maxSteps := 400000) -implicitDefEqProofs [L_spec_ReadBy, retK_eq, cutK_eq, hx, hxb, hw, hk.1, hk.2, p1, p3, k2, h]
      · have h := ih (p ++ [x]) (pb ++ [b]) rb out q (by simp [hp]) hr' (by simp at hq; omega) (by simpa using hl) (by omega)
        have er : readL who (x :: r) (b :: rb) = readL who r rb := by rw [readL, if_neg hk]; rfl
        rw [er]
        simp at h
        by_cases hk1 : x.k = 3
        · have hk2 : ¬ x.w = who := fun e => hk ⟨hk1, e⟩
          simp (maxSteps := 400000) -implicitDefEqProofs [L_spec_ReadBy, retK_eq, cutK_eq, hx, hxb, hw, hk1, hk2, h]
        · simp (maxSteps := 400000) -implicitDefEqProofs [L_spec_ReadBy, retK_eq, cutK_eq, hx, hxb, hw, hk1, h]
theorem s_spec_ReadBy (l : List EvT) (rd : List (List Int)) (who : Int) (hl : l.length < 1100000) (hs : sumL rd < 1000000000) : X_spec_ReadBy [frS eEv l, frS eBS rd, .int .i64 who] [] = if rbK l rd = 0 then some (.agg #[.int .i64 0, slO 0 (readL who l rd).length], [ownB eU8 (readL who l rd)]) else some (.agg #[.int .i64 (rbK l rd), nilR], []) := by
  by_cases h1 : l.length ≤ 40
  · have h1' : ¬ (40 : Int) < l.length := by omega
    by_cases h2 : rd.length = l.length
    · have h := l_spec_ReadBy who l [] [] rd [] QQ rfl h2.symm (by unfold QQ; omega) (by simpa using hl) (by simpa using hs)
      have ek : rbK l rd = 0 := by unfold rbK; rw [if_pos h1, if_pos h2]
      have e0 : (⟨[], 1, true, true⟩ : Blk) = ownB eU8 [] := rfl
      rw [ek]
      simp at h
      simp (maxSteps := 400000) -implicitDefEqProofs [X_spec_ReadBy, retK_eq, cutK_eq, h1', h2, e0, h]
    · have ek : rbK l rd = 1 := by unfold rbK; rw [if_pos h1, if_neg h2]
      have h2' : ¬ (l.length : Int) = rd.length := by omega
      have h3 : ¬ l.length = rd.length := fun e => h2 e.symm
      rw [ek]
      simp (maxSteps := 400000) -implicitDefEqProofs [X_spec_ReadBy, retK_eq, cutK_eq, h1', h2', h3]
  · have h1' : (40 : Int) < l.length := by omega
    have ek : rbK l rd = 2 := by unfold rbK; rw [if_neg h1]
    rw [ek]
    simp (maxSteps := 400000) -implicitDefEqProofs [X_spec_ReadBy, retK_eq, cutK_eq, h1']
end Go.Ab
