/- What the functions of the program answer, for all arguments that the theorems name as conditions. -/
import Derived.Test.YtkfbpdbopkdnjaaS3RB
import Derived.Test.YtkfbpdbopkdnjaaS3RAe
import Derived.Test.YtkfbpdbopkdnjaaS3R7
namespace Go.Ab
set_option linter.unusedSimpArgs false
set_option linter.unusedVariables false
set_option maxHeartbeats 8000000

theorem szL_upE (l : List EvT) : ∀ (x t : Int), 0 ≤ szL (l.map fun e => e.d.length) x → upES t l ≤ t + x - szL (l.map fun e => e.d.length) x + 12 * l.length := by
  induction l with
  | nil => intro x t h; simp [szL, upES]
  | cons n r ih =>
    intro x t h
    rw [List.map_cons, szL] at h ⊢
    split at h
    · omega
    · rename_i hs
      rw [if_neg hs, upES]
      have := ih _ (upE t n) h
      have h3 : szN n.d.length x = x - n.d.length := by unfold szN at hs ⊢; split <;> simp_all
      unfold upE at *
      rw [List.length_cons]
      push_cast
      omega
theorem s_eqWay (a b c d e f g : Int) : X_laws_eqWay [.agg #[.int .i64 a, .int .i64 b, .int .i64 c, .int .i64 d, .int .i64 e, .int .i64 f, .int .i64 g], .agg #[.int .i64 a, .int .i64 b, .int .i64 c, .int .i64 d, .int .i64 e, .int .i64 f, .int .i64 g]] [] = some (.bool true, []) := by
  simp (maxSteps := 400000) -implicitDefEqProofs [X_laws_eqWay, retK_eq]
theorem s_eqEvent (e : EvT) (h : e.d.length < 1000000000) : X_laws_eqEvent [evV e, evV e] [] = some (.bool true, []) := by
  have h1 := s_eqByteS e.d h
  have h2 := s_eqWay
  simp (maxSteps := 1000000) -implicitDefEqProofs [X_laws_eqEvent, retK_eq, h1, h2]
theorem l_eqEventS (r : List EvT) : ∀ (p : List EvT) (q : Nat), r.length < q → (p ++ r).length < 1000000000 → (∀ x ∈ r, x.d.length < 1000000000) → L_laws_eqEventS 0 q 0 [frS eEv (p ++ r), frS eEv (p ++ r), .int .i64 p.length] [] = some (.bool true, []) := by
  induction r with
  | nil =>
    intro p q hq hl hb
    obtain ⟨q, rfl⟩ : ∃ n, q = n + 1 := ⟨q - 1, by omega⟩
    simp +contextual -implicitDefEqProofs [L_laws_eqEventS, retK_eq]
  | cons x r ih =>
    intro p q hq hl hb
    obtain ⟨q, rfl⟩ : ∃ n, q = n + 1 := ⟨q - 1, by omega⟩
    have h := ih (p ++ [x]) q (by simp at hq; omega) (by simpa using hl) (fun y hy => hb y (by simp [hy]))
    simp at h
    have hx := ixa_mid eEv (sz := 13) rfl .i64 p x r
    have hw := wrap_next (n := p.length) (by simp at hl; omega)
    have hc := s_eqEvent x (hb x (by simp))
    simp +contextual -implicitDefEqProofs [L_laws_eqEventS, retK_eq, cutK_eq, hx, hw, hc, h]
theorem s_eqEventS (a : List EvT) (ha : a.length < 1000000000) (hb : ∀ x ∈ a, x.d.length < 1000000000) : X_laws_eqEventS [frS eEv a, frS eEv a] [] = some (.bool true, []) := by
  have h2 := l_eqEventS a [] QQ (by unfold QQ; omega) (by simpa using ha) hb
  simp at h2
  simp +contextual -implicitDefEqProofs [X_laws_eqEventS, cutK_eq, retK_eq, h2]
end Go.Ab
