/- What the functions of the program answer, for all arguments that the theorems name as conditions. -/
import Derived.Test.YtkfbpdbopkdnjaaS3L3
import Derived.Test.YtkfbpdbopkdnjaaS3L6
namespace Go.Ab
set_option linter.unusedSimpArgs false
set_option linter.unusedVariables false
set_option maxHeartbeats 8000000

/-! ## LiftKey of the reference -/
theorem s_spec_l9Copy (p : KbT) (hl : p.hs.length < 1000000000) : X_spec_l9Copy [kbV p] [] = some (kbO p 0, [ownB eHd p.hs]) := by
  have h1 := fun m n o c => apL_frS (E := eHd) (m := m) (sz := 2) (bytes := 16) (n := n) (o := o) (len := 0) (c := c) (l := p.hs) rfl (by omega) (by omega)
  have h2 : (⟨cellsE eHd p.hs, 2, true, true⟩ : Blk) = ownB eHd p.hs := rfl
  simp +contextual -implicitDefEqProofs [X_spec_l9Copy, retK_eq, h1, h2]
theorem l_spec_l9Less (k : Int) (r : List HdT) : ∀ (p kept : List HdT) (q : Nat), r.length < q → (p ++ r).length < 1000000000 → kept.length ≤ p.length → L_spec_l9Less 0 q 0 [frS eHd (p ++ r), .int .i64 k, slO 0 kept.length, .int .i64 p.length] [ownB eHd kept] = some (slO 0 (kept ++ lessH k r).length, [ownB eHd (kept ++ lessH k r)]) := by
  induction r with
  | nil =>
    intro p kept q hq hl hk
    obtain ⟨q, rfl⟩ : ∃ n, q = n + 1 := ⟨q - 1, by omega⟩
    simp -implicitDefEqProofs [L_spec_l9Less, retK_eq, lessH]
  | cons x r ih =>
    intro p kept q hq hl hk
    obtain ⟨q, rfl⟩ : ∃ n, q = n + 1 := ⟨q - 1, by omega⟩
    have hx := ixa_mid eHd (sz := 2) rfl .i64 p x r
    have hw := wrap_next (n := p.length) (by simp at hl; omega)
    have hl' : p.length + (r.length + 1) < 1000000000 := by simpa using hl
    by_cases he : x.k = k
    · have h := ih (p ++ [x]) kept q (by simp at hq; omega) (by simpa using hl) (by simp; omega)
      have e3 : lessH k (x :: r) = lessH k r := by simp [lessH, he]
      rw [e3]
      subst he
      simp at h
      simp (maxSteps := 400000) +contextual -implicitDefEqProofs [L_spec_l9Less, retK_eq, cutK_eq, hx, hw, h]
    · have h := ih (p ++ [x]) (kept ++ [x]) q (by simp at hq; omega) (by simpa using hl) (by simp; omega)
      have e3 : lessH k (x :: r) = x :: lessH k r := by simp [lessH, he]
      rw [e3]
      have p1 := fun m n k cc => apL_sl (m := m) (sz := 2) (bytes := 16) (n := n) (o := 0) (len := kept.length) (c := cc) (n2 := k) (o2 := 0) (len2 := 1) (c2 := 1) (by omega) (by omega)
      have p3 := fun m n cs k => apB_own (E := eHd) (m := m) (l := kept) (n := n) (sz := 2) (cs := cs) (k := k) rfl
      have p4 : rdM (some ⟨[.int .i64 x.k, .int .i64 x.b], 2, true, true⟩) 0 2 = some [.int .i64 x.k, .int .i64 x.b] := rfl
      have hk2 : (⟨cellsE eHd kept ++ [.int .i64 x.k, .int .i64 x.b], 2, true, true⟩ : Blk) = ownB eHd (kept ++ [x]) := by
        rw [← mk_own2 eHd _ _ 2 rfl]
        rfl
      simp at h
      simp (maxSteps := 400000) +contextual -implicitDefEqProofs [L_spec_l9Less, retK_eq, cutK_eq, hx, hw, h, he, p1, p3, p4, hk2]
theorem s_spec_l9Less (k : Int) (l : List HdT) (hl : l.length < 1000000000) : X_spec_l9Less [frS eHd l, .int .i64 k] [] = some (slO 0 (lessH k l).length, [ownB eHd (lessH k l)]) := by
  have h := l_spec_l9Less k l [] [] QQ (by unfold QQ; omega) (by simpa using hl) (by simp)
  have e : (⟨[], 2, true, true⟩ : Blk) = ownB eHd [] := rfl
  simp at h
  simp +contextual -implicitDefEqProofs [X_spec_l9Less, retK_eq, cutK_eq, h, e]
theorem s_spec_LiftKey_bad (p : KbT) (k : Int) (hl : p.hs.length < 1000000000) (h : ¬ (kbF p = 0 ∧ inB k 1 40 = true)) : X_spec_LiftKey [kbV p, .int .i64 k] [] = some (krZ (if kbF p = 0 then 3 else kbF p), []) := by
  have c1 := fun rest => s_spec_l9Fault p hl rest
  by_cases h1 : kbF p = 0
  · have h2 : inB k 1 40 = false := by cases h3 : inB k 1 40; · rfl
                                       · exact absurd ⟨h1, h3⟩ h
    simp -implicitDefEqProofs [X_spec_LiftKey, retK_eq, c1, s_spec_l1In, h1, h2]
  · simp -implicitDefEqProofs [X_spec_LiftKey, retK_eq, c1, s_spec_l1In, h1]
theorem s_spec_LiftKey (p : KbT) (k : Int) (hl : p.hs.length < 1000000000) (h1 : kbF p = 0) (h2 : inB k 1 40 = true) : X_spec_LiftKey [kbV p, .int .i64 k] [] = some (krW p (slO 0 (lessH k p.hs).length), [ownB eHd (lessH k p.hs)]) := by
  have c1 := fun rest => s_spec_l9Fault p hl rest
  have c2 := s_spec_l9Copy p hl
  have c3 := s_spec_l9Less k p.hs hl
  simp -implicitDefEqProofs [X_spec_LiftKey, retK_eq, c1, c2, c3, s_spec_l1In, h1, h2]
end Go.Ab
