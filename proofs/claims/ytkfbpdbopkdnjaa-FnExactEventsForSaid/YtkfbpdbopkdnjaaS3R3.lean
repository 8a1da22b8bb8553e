/- What the functions of the program answer, for all arguments that the theorems name as conditions. -/
import Derived.Test.YtkfbpdbopkdnjaaS3R0h
namespace Go.Ab
set_option linter.unusedSimpArgs false
set_option linter.unusedVariables false
set_option maxHeartbeats 8000000

/-! ## Marks in bytes -/
def markB (t : Int) : Nat → List Int
  | 0 => []
  | n + 1 => IntKind.u8.wrap t :: markB (t + 1) n
@[simp] theorem markB_len (t : Int) (n : Nat) : (markB t n).length = n := by
  induction n generalizing t with
  | zero => rfl
  | succ n ih => simp [markB, ih]
theorem lay_setB (l : List Int) (j : Nat) (x : Int) (h : j < l.length) : lay (cellsE eU8 l) j [.int .u8 x] = cellsE eU8 (l.set j x) := lay_setI .u8 l j x h
theorem l_markByteS (r : List Int) : ∀ (p : List Int) (t : Int) (q n : Nat), r.length < q → n = (p ++ r).length → n < 1000000000 → 0 ≤ t → t + r.length ≤ 1000000000000 → L_laws_markByteS 1 q 0 [slO 0 n, .int .i64 t, .int .i64 p.length] [ownB eU8 (p ++ r)] = some (.int .i64 (t + r.length), [ownB eU8 (p ++ markB t r.length)]) := by
  induction r with
  | nil =>
    intro p t q n hq hn hl h0 h1
    obtain ⟨q, rfl⟩ : ∃ n, q = n + 1 := ⟨q - 1, by omega⟩
    subst hn
    simp -implicitDefEqProofs [L_laws_markByteS, retK_eq, markB]
  | cons x r ih =>
    intro p t q n hq hn hl h0 h1
    obtain ⟨q, rfl⟩ : ∃ n, q = n + 1 := ⟨q - 1, by omega⟩
    simp only [List.length_cons] at h1
    have h := ih (p ++ [IntKind.u8.wrap t]) (t + 1) q n (by simp at hq; omega) (by simpa using hn) hl (by omega) (by push_cast at h1; omega)
    simp at h
    have hw := wrap_next (n := p.length) (by simp at hn; omega)
    have hw2 := wrap_one h0 (by omega)
    have hn' : n = p.length + (r.length + 1) := by simpa using hn
    subst hn'
    have hy := lay_mid eU8 p x r (IntKind.u8.wrap t)
    simp at hy
    have e : t + ((r.length : Int) + 1) = t + 1 + r.length := by omega
    simp +contextual -implicitDefEqProofs [L_laws_markByteS, retK_eq, cutK_eq, hw, hw2.1, hy, h, markB, e]
theorem s_markByteS (l : List Int) (t : Int) (hl : l.length < 1000000000) (h0 : 0 ≤ t) (h1 : t ≤ 100000000000) : X_laws_markByteS [slO 0 l.length, .int .i64 t] [ownB eU8 l] = some (.int .i64 (t + l.length), [ownB eU8 (markB t l.length)]) := by
  have h := l_markByteS l [] t QQ l.length (by unfold QQ; omega) rfl hl h0 (by omega)
  simp at h
  simp +contextual -implicitDefEqProofs [X_laws_markByteS, retK_eq, cutK_eq, h]
/-- A call that works on one block. -/
theorem rcall_one {X : List Value → Mem → Option VM} {m : Mem} {a n c : Nat} {rest : List Value} {l l' : List Int} {v : Value} (hm : m[a]? = some (ownB eU8 l)) (hrest : rest.all scal = true) (hv : scal v = true) (hX : X (.slice (some ⟨0, 0, none⟩) n c :: rest) [ownB eU8 l] = some (v, [ownB eU8 l'])) : rcall X (.slice (some ⟨a, 0, none⟩) n c :: rest) m = some (v, m.set a (ownB eU8 l')) := by
  have hnm : (Value.slice (some ⟨a, 0, none⟩) n c :: rest).flatMap (nmV 8) = [a] := by
    rw [List.flatMap_cons, nm_scal hrest]
    rfl
  have hrn : mapO (rnV 8 inert (ixOf [a])) (.slice (some ⟨a, 0, none⟩) n c :: rest) = some (.slice (some ⟨0, 0, none⟩) n c :: rest) := by
    have hr := rn_scal (j := 7) (π := ixOf [a]) (l := rest) (r := []) hrest
    rw [List.append_nil] at hr
    rw [mapO_cons, rn_inert_sl, ixOf_cons, if_pos rfl, bo_some, bo_some, hr]
    simp [mapO]
  have hre : reachF 4194304 m [a] [] = some [a] := by
    rw [reach_cons, if_neg (by simp), hm]
    simp only [nmB_own, List.append_nil, List.nil_append]
    rfl
  have hlo : locM m [a] [a] = some [ownB eU8 l] := by
    rw [locM_cons, hm]
    simp only [locB_own, bo_some]
    rfl
  rw [rcall_eq, hnm, hre, bo_some, hrn, bo_some, hlo, bo_some, hX, bo_some]
  simp only [List.length_singleton, Nat.le_refl, if_true]
  rw [rnV_scal hv, bo_some, mapB_cons, bkB_own, bo_some]
  simp
end Go.Ab
