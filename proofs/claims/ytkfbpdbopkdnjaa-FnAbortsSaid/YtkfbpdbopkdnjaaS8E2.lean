/- What the functions of the program answer, for all arguments that the theorems name as conditions. -/
import Derived.Test.YtkfbpdbopkdnjaaS8E1
namespace Go.Ab
set_option linter.unusedSimpArgs false
set_option linter.unusedVariables false
set_option maxHeartbeats 8000000

/-! ## Strings of draws -/
def sInts (s : ByteArray) : List Int := s.data.toList.map fun b => (b.toNat : Int)
theorem sInts_len (s : ByteArray) : (sInts s).length = s.size := by simp [sInts]
theorem sInts_bd (s : ByteArray) : ∀ x ∈ sInts s, 0 ≤ x ∧ x < 256 := by
  intro x hx
  unfold sInts at hx
  rw [List.mem_map] at hx
  obtain ⟨b, _, rfl⟩ := hx
  have := UInt8.toNat_lt b
  omega
theorem ixs_at (s : ByteArray) {j : Nat} {x : Int} (k : IntKind) (h : (sInts s)[j]? = some x) : ixsX (.string s) (.int k (j : Int)) = some (.int .u8 x) := by
  show (if (0 : Int) ≤ (j : Int) then (s[(j : Int).toNat]?).map fun b => Value.int .u8 b.toNat else none) = _
  rw [if_pos (by omega), Int.toNat_natCast]
  have hj : j < s.size := by
    have := (List.getElem?_eq_some_iff.1 h).1
    rw [sInts_len] at this
    exact this
  have e : s[j]? = some s[j] := by simp [hj]
  rw [e]
  have : x = (s[j].toNat : Int) := by
    obtain ⟨_, h2⟩ := List.getElem?_eq_some_iff.1 h
    rw [← h2]
    simp [sInts]
    rfl
  rw [this]
  rfl
theorem str_pick (xs : List ByteArray) (n : Nat) (hb : xs.all (fun s => decide (s.size ≤ n)) = true) (j : Nat) (h1 : j < xs.length) : ∃ s : ByteArray, s.size ≤ n ∧ (xs.map Value.string)[j]? = some (.string s) := by
  refine ⟨xs[j], ?_, ?_⟩
  · rw [List.all_eq_true] at hb
    have := hb _ (List.getElem_mem h1)
    simpa using this
  · simp [List.getElem?_map, List.getElem?_eq_getElem h1]
theorem s_l1Digits (n : Int) (h0 : 0 ≤ n) (h1 : n < 10) : ∃ s : ByteArray, s.size = 1 ∧ X_spec_l1Digits [.int .i64 n] [] = some (.string s, []) := by
  obtain ⟨q, hq⟩ : ∃ q, QQ = q + 1 := ⟨QQ - 1, by unfold QQ; omega⟩
  have w1 : IntKind.i64.wrap (48 + n) = 48 + n := wrap_i64 (by omega) (by omega)
  have w2 : IntKind.u8.wrap (48 + n) = 48 + n := wrap_u8' (by omega) (by omega)
  have e : (⟨[.int .u8 (48 + n)], 1, true, true⟩ : Blk) = ownB (eI .u8) [48 + n] := rfl
  have c := cvB_own [48 + n] 1 rfl
  refine ⟨bstr [48 + n], rfl, ?_⟩
  show R_spec_l1Digits QQ [.int .i64 n] [] = _
  rw [hq]
  simp -implicitDefEqProofs [R_spec_l1Digits, retK_eq, w1, w2, h1, e, c]
theorem s_pick6 (l : List Int) (a x y z u v w : Int) (hl : bytesOk l) (ha : atOk a) : X_spec_l1Pick [pt 0, .slice (some ⟨1, 0, none⟩) 6 6] [srcM l a, ⟨[.int .i64 x, .int .i64 y, .int .i64 z, .int .i64 u, .int .i64 v, .int .i64 w], 1, true, true⟩] = some (.int .i64 (pk l a [x, y, z, u, v, w]), [srcM l (a + 1), ⟨[.int .i64 x, .int .i64 y, .int .i64 z, .int .i64 u, .int .i64 v, .int .i64 w], 1, true, true⟩]) := s_pickG l a [x, y, z, u, v, w] hl ha (by simp)
theorem s_pick9 (l : List Int) (a x y z u v w t r s : Int) (hl : bytesOk l) (ha : atOk a) : X_spec_l1Pick [pt 0, .slice (some ⟨1, 0, none⟩) 9 9] [srcM l a, ⟨[.int .i64 x, .int .i64 y, .int .i64 z, .int .i64 u, .int .i64 v, .int .i64 w, .int .i64 t, .int .i64 r, .int .i64 s], 1, true, true⟩] = some (.int .i64 (pk l a [x, y, z, u, v, w, t, r, s]), [srcM l (a + 1), ⟨[.int .i64 x, .int .i64 y, .int .i64 z, .int .i64 u, .int .i64 v, .int .i64 w, .int .i64 t, .int .i64 r, .int .i64 s], 1, true, true⟩]) := s_pickG l a [x, y, z, u, v, w, t, r, s] hl ha (by simp)
theorem l_l4Sequence (l : List Int) (a : Int) (s : ByteArray) (hs : s.size ≤ 100) (r : List Int) : ∀ (p : List Int) (q : Nat), sInts s = p ++ r → r.length < q → L_spec_l4Sequence 1 q 0 [pt 0, .string s, slO 1 p.length, .int .i64 p.length] [srcM l a, ownB eI6 p] = some (slO 1 (p ++ r).length, [srcM l a, ownB eI6 (p ++ r)]) := by
  have hl := sInts_len s
  induction r with
  | nil =>
    intro p q hp hq
    obtain ⟨q, rfl⟩ : ∃ n, q = n + 1 := ⟨q - 1, by omega⟩
    have e : (s.size : Int) = p.length := by rw [← hl, hp]; simp
    simp -implicitDefEqProofs [L_spec_l4Sequence, retK_eq, e]
  | cons x r ih =>
    intro p q hp hq
    obtain ⟨q, rfl⟩ : ∃ n, q = n + 1 := ⟨q - 1, by omega⟩
    have h := ih (p ++ [x]) q (by simpa using hp) (by simp at hq; omega)
    have e : (s.size : Int) = p.length + (r.length + 1) := by rw [← hl, hp]; simp
    have hx := ixs_at s (j := p.length) (x := x) .i64 (by rw [hp]; simp)
    have hb := sInts_bd s x (by rw [hp]; simp)
    have hw := wrap_next (n := p.length) (by omega)
    have hv : IntKind.i64.wrap x = x := wrap_i64 (by omega) (by omega)
    have p1 := fun m n k cc => apL_sl (m := m) (sz := 1) (bytes := 8) (n := n) (o := 0) (len := p.length) (c := cc) (n2 := k) (o2 := 0) (len2 := 1) (c2 := 1) (by omega) (by omega)
    have p3 := fun m n cs k => apB_own (E := eI6) (m := m) (l := p) (n := n) (sz := 1) (cs := cs) (k := k) rfl
    have p4 : rdM (some ⟨[.int .i64 x], 1, true, true⟩) 0 1 = some [.int .i64 x] := rfl
    have hk : (⟨cellsE eI6 p ++ [.int .i64 x], 1, true, true⟩ : Blk) = ownB eI6 (p ++ [x]) := by
      rw [← mk_own2 eI6 _ _ 1 rfl]
      rfl
    simp at h
    simp (maxSteps := 400000) -implicitDefEqProofs [L_spec_l4Sequence, retK_eq, cutK_eq, e, hx, hv, hw, p1, p3, p4, hk, h]
theorem s_l4SeqL (l : List Int) (a : Int) (s : ByteArray) (hs : s.size ≤ 100) : L_spec_l4Sequence 1 QQ 0 [pt 0, .string s, slO 1 0, .int .i64 0] [srcM l a, ⟨[], 1, true, true⟩] = some (slO 1 (sInts s).length, [srcM l a, ownB eI6 (sInts s)]) := by
  have h := l_l4Sequence l a s hs (sInts s) [] QQ rfl (by rw [sInts_len]; unfold QQ; omega)
  simp at h
  exact h
end Go.Ab
