/- What the functions of the program answer, for all arguments that the theorems name as conditions. -/
import Derived.Test.YtkfbpdbopkdnjaaS3RA
import Derived.Test.YtkfbpdbopkdnjaaS3R5e
namespace Go.Ab
set_option linter.unusedSimpArgs false
set_option linter.unusedVariables false
set_option maxHeartbeats 8000000

theorem s_szEvent (e : EvT) (left : Int) (hl : e.d.length ≤ 9223372036854775807) (h0 : 0 ≤ left) (h1 : left ≤ 1048576) : X_laws_szEvent [evV e, .int .i64 left] [] = some (.int .i64 (szN e.d.length left), []) := by
  have c1 := s_szByteS e.d left hl h0 h1
  by_cases h : szN e.d.length left < 0
  · have := szN_neg h
    simp +contextual -implicitDefEqProofs [X_laws_szEvent, retK_eq, c1, h, this]
  · simp +contextual -implicitDefEqProofs [X_laws_szEvent, retK_eq, c1, h]
theorem l_szEventS (r : List EvT) : ∀ (p : List EvT) (left : Int) (q : Nat), r.length < q → (p ++ r).length < 1000000000 → (∀ x ∈ r, x.d.length ≤ 9223372036854775807) → 0 ≤ left → left ≤ 1048576 → L_laws_szEventS 0 q 0 [frS eEv (p ++ r), .int .i64 left, .int .i64 p.length] [] = some (.int .i64 (szL (r.map fun e => e.d.length) left), []) := by
  induction r with
  | nil =>
    intro p left q hq hl hb h0 h1
    obtain ⟨q, rfl⟩ : ∃ n, q = n + 1 := ⟨q - 1, by omega⟩
    simp -implicitDefEqProofs [L_laws_szEventS, retK_eq, szL]
  | cons x r ih =>
    intro p left q hq hl hb h0 h1
    obtain ⟨q, rfl⟩ : ∃ n, q = n + 1 := ⟨q - 1, by omega⟩
    have hx := ixa_mid eEv (sz := 13) rfl .i64 p x r
    have hw := wrap_next (n := p.length) (by simp at hl; omega)
    have hc := s_szEvent x left (hb x (by simp)) h0 h1
    have hle := szN_le (n := x.d.length) h1
    by_cases hs : szN x.d.length left < 0
    · simp +contextual -implicitDefEqProofs [L_laws_szEventS, retK_eq, cutK_eq, hx, hw, hc, hs, szL]
    · have h := ih (p ++ [x]) (szN x.d.length left) q (by simp at hq; omega) (by simpa using hl) (fun y hy => hb y (by simp [hy])) (by omega) hle
      simp at h
      simp +contextual -implicitDefEqProofs [L_laws_szEventS, retK_eq, cutK_eq, hx, hw, hc, hs, szL, h]
def szES (l : List EvT) (left : Int) : Int := if szN l.length left < 0 then -1 else szL (l.map fun e => e.d.length) (szN l.length left)
theorem s_szEventS (l : List EvT) (left : Int) (hl : l.length ≤ 9223372036854775807) (hb : ∀ x ∈ l, x.d.length ≤ 9223372036854775807) (h0 : 0 ≤ left) (h1 : left ≤ 1048576) : X_laws_szEventS [frS eEv l, .int .i64 left] [] = some (.int .i64 (szES l left), []) := by
  have hw : IntKind.i64.wrap (left - l.length) = left - l.length := wrap_i64 (by omega) (by omega)
  by_cases hs : left - l.length < 0
  · have hs2 : szN l.length left < 0 := by unfold szN; rw [if_pos hs]; omega
    simp +contextual -implicitDefEqProofs [X_laws_szEventS, retK_eq, cutK_eq, hw, hs, szES, hs2]
  · have hs2 : szN l.length left = left - l.length := by unfold szN; rw [if_neg hs]
    have h := l_szEventS l [] (left - l.length) QQ (by unfold QQ; omega) (by simp; omega) hb (by omega) (by omega)
    simp at h
    simp +contextual -implicitDefEqProofs [X_laws_szEventS, retK_eq, cutK_eq, hw, hs, szES, hs2, h]
end Go.Ab
