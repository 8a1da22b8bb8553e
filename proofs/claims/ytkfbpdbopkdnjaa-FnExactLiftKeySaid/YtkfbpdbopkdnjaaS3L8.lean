/- What the functions of the program answer, for all arguments that the theorems name as conditions. -/
import Derived.Test.YtkfbpdbopkdnjaaS3L1
import Derived.Test.YtkfbpdbopkdnjaaS3L7
import Derived.Test.YtkfbpdbopkdnjaaS3B4
namespace Go.Ab
open Go.Proofs
set_option linter.unusedSimpArgs false
set_option linter.unusedVariables false
set_option maxHeartbeats 8000000

/-! ## Results with keyboards -/
theorem s_eqByteS_ro : X_laws_eqByteS [roS 0 [], roS 0 []] [] = some (.bool true, []) := by
  have h : L_laws_eqByteS 0 QQ 0 [roS 0 [], roS 0 [], .int .i64 0] [] = some (.bool true, []) := by
    obtain ⟨q, hq⟩ : ∃ n, QQ = n + 1 := ⟨QQ - 1, by unfold QQ; omega⟩
    rw [hq]
    simp +contextual -implicitDefEqProofs [L_laws_eqByteS, retK_eq, cutK_eq]
  simp +contextual -implicitDefEqProofs [X_laws_eqByteS, retK_eq, cutK_eq, h]
theorem s_heldByteS_ro (t : Int) : X_laws_heldByteS [roS 0 [], .int .i64 t] [] = some (.int .i64 t, []) := by
  have h : L_laws_heldByteS 0 QQ 0 [roS 0 [], .int .i64 t, .int .i64 0] [] = some (.int .i64 t, []) := by
    obtain ⟨q, hq⟩ : ∃ n, QQ = n + 1 := ⟨QQ - 1, by unfold QQ; omega⟩
    rw [hq]
    simp +contextual -implicitDefEqProofs [L_laws_heldByteS, retK_eq, cutK_eq]
  simp +contextual -implicitDefEqProofs [X_laws_heldByteS, retK_eq, cutK_eq, h]
abbrev krV (c : Int) (p : KbT) : Value := .agg #[.int .i64 c, roS 0 [], .int .i64 0, frS eHd p.hs, .bool p.cap, .int .i64 p.acc]
theorem s_eqKeyResult (c : Int) (p : KbT) (hp : p.hs.length < 1000000000) : X_laws_eqKeyResult [krV c p, krV c p] [] = some (.bool true, []) := by
  have h := s_eqKeyboard p hp
  simp -implicitDefEqProofs [X_laws_eqKeyResult, retK_eq, h, s_eqByteS_ro]
theorem s_heldKeyResult (c : Int) (p : KbT) (n : Nat) (hn : n < 1000000) : X_laws_heldKeyResult [.agg #[.int .i64 c, roS 0 [], .int .i64 0, frS eHd (markH 1 n), .bool p.cap, .int .i64 p.acc], .int .i64 1] [] = some (.int .i64 (upH 1 n), []) := by
  have h := s_heldKeyboard ⟨markH 1 n, p.cap, p.acc⟩ 1 n rfl (by omega) (by omega) (by omega)
  have g := upH_pos n (t := 1) (by omega)
  simp -implicitDefEqProofs [X_laws_heldKeyResult, retK_eq, h, s_heldByteS_ro, g]
theorem mark_KS (c : Int) (p : KbT) (l z : List HdT) (hl : l.length + z.length < 1000000) : X_laws_markKeyResult [.agg #[.int .i64 c, nilS, .int .i64 0, .slice (some ⟨0, 0, none⟩) l.length (l.length + z.length), .bool p.cap, .int .i64 p.acc], .int .i64 1] [ownB eHd (l ++ z)] = some (.int .i64 (upH 1 l.length), [ownB eHd (markH 1 l.length ++ z)]) := by
  have h := s_markHoldS l z 1 (by omega) (by omega) (by omega)
  have h2 : X_laws_markKeyboard [kbW p (.slice (some ⟨0, 0, none⟩) l.length (l.length + z.length)), .int .i64 1] [ownB eHd (l ++ z)] = some (.int .i64 (upH 1 l.length), [ownB eHd (markH 1 l.length ++ z)]) := by
    simp -implicitDefEqProofs [X_laws_markKeyboard, retK_eq, h]
  simp -implicitDefEqProofs [X_laws_markKeyResult, retK_eq, h2, s_markByteS_nil]
theorem mark_KE (c : Int) (p : KbT) (v : Value) (hv : v = nilS ∨ v = roS 0 []) : X_laws_markKeyResult [.agg #[.int .i64 c, nilS, .int .i64 0, v, .bool p.cap, .int .i64 p.acc], .int .i64 1] [] = some (.int .i64 1, []) := by
  rcases hv with rfl | rfl
  · have h2 : X_laws_markKeyboard [kbW p nilS, .int .i64 1] [] = some (.int .i64 1, []) := by
      simp -implicitDefEqProofs [X_laws_markKeyboard, retK_eq, s_markHoldS_nil]
    simp -implicitDefEqProofs [X_laws_markKeyResult, retK_eq, h2, s_markByteS_nil]
  · have h2 : X_laws_markKeyboard [kbW p (roS 0 []), .int .i64 1] [] = some (.int .i64 1, []) := by
      simp -implicitDefEqProofs [X_laws_markKeyboard, retK_eq, s_markHoldS_ro]
    simp -implicitDefEqProofs [X_laws_markKeyResult, retK_eq, h2, s_markByteS_nil]
theorem s_markKeyboardO (p : KbT) (hl : p.hs.length < 1000000000) : X_laws_markKeyboard [kbO p 0, .int .i64 1] [ownB eHd p.hs] = some (.int .i64 (upH 1 p.hs.length), [ownB eHd (markH 1 p.hs.length)]) := by
  have h := s_markHoldS p.hs [] 1 (by simpa using hl) (by omega) (by omega)
  simp at h
  simp -implicitDefEqProofs [X_laws_markKeyboard, retK_eq, h]

/-! ## Keyboards out of the types -/
theorem typed_holds {s i : Nat} {a : Value} (h : Typed CT s [a]) (hs : (CT.ty s).d = .slice i) (hi : (CT.ty i).d = .struct [(0, 2), (1, 2)]) (hz : (CT.ty i).size = 2) : ∃ l : List HdT, a = frS eHd l ∧ l.length ≤ 9223372036854775807 := by
  obtain ⟨l, e, f, _⟩ := typed_enc eHd (p := fun _ => True) h hs fun x h1 h2 => by
    rw [hz] at h2
    match x, h2 with
    | [a0, a1], _ =>
      obtain ⟨_, h3⟩ := typed_struct h1 hi
      obtain ⟨x0, rfl, _⟩ := typed_i64 (h3 (0, 2) (by simp)) rfl
      obtain ⟨x1, rfl, _⟩ := typed_i64 (h3 (1, 2) (by simp)) rfl
      exact ⟨⟨x0, x1⟩, rfl, trivial⟩
  exact ⟨l, e, f⟩
end Go.Ab
