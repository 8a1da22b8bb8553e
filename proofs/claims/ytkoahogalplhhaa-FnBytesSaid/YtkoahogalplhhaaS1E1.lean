/- What the functions of the program answer, for all arguments that the theorems name as conditions. -/
import Derived.Test.YtkoahogalplhhaaS1B0
namespace Go.Ab
set_option linter.unusedSimpArgs false
set_option linter.unusedVariables false
set_option maxHeartbeats 4000000

/-! ## The source of draws -/
@[simp] theorem fz_tuple (k : Nat) (m : Mem) (cs : Array Value) : fz (k + 1) m (.tuple cs) = bo (fun xs => some (.tuple xs.toArray)) (mapO (fz k m) cs.toList) := (rfl)
abbrev srcM (l : List Int) (a : Int) : Blk := ⟨[frS eU8 l, .int .i64 a], 0, true, true⟩
abbrev pt (n : Nat) : Value := .pointer (some ⟨n, 0, none⟩)
def bytesOk (l : List Int) : Prop := l.length < 2000000 ∧ ∀ x ∈ l, 0 ≤ x ∧ x < 256
def atOk (a : Int) : Prop := 0 ≤ a ∧ a < 1000000000
def nx (l : List Int) (a n : Int) : Int :=
  if n < 1 then 0 else if l.length = 0 then (a * 7).tmod n else
    if 200 < n then ((gt l (a.tmod l.length).toNat + a.tdiv l.length * 37) * 251 + gt l ((a + 1).tmod l.length).toNat * 13 + a).tmod n
    else (gt l (a.tmod l.length).toNat + a.tdiv l.length * 37).tmod n
theorem gt_byte {l : List Int} (h : bytesOk l) (j : Nat) : 0 ≤ gt l j ∧ gt l j < 256 := by
  rcases Nat.lt_or_ge j l.length with hj | hj
  · rw [gt_lt hj]
    exact h.2 _ (List.getElem_mem hj)
  · have : gt l j = 0 := by simp [gt, List.getElem?_eq_none hj]
    rw [this]
    omega
theorem src_facts {l : List Int} (hl : bytesOk l) {a : Int} (ha : 0 ≤ a) (hk : l.length ≠ 0) : 0 ≤ a.tmod l.length ∧ a.tmod l.length < l.length ∧ 0 ≤ a.tdiv l.length ∧ a.tdiv l.length ≤ a := by
  have h1 := Int.tmod_nonneg (l.length : Int) ha
  have h2 := Int.tmod_lt_of_pos a (show (0 : Int) < l.length by omega)
  have h3 := Int.tdiv_nonneg ha (show (0 : Int) ≤ l.length by omega)
  have h4 := Int.tdiv_le_self (a := a) l.length ha
  exact ⟨h1, h2, h3, h4⟩
theorem nx_bd {l : List Int} (hl : bytesOk l) {a n : Int} (ha : atOk a) (hn : 1 ≤ n) : 0 ≤ nx l a n ∧ nx l a n < n := by
  unfold nx
  rw [if_neg (by omega)]
  have ha' := ha
  obtain ⟨a0, a1⟩ := ha
  split
  · exact ⟨Int.tmod_nonneg _ (by omega), Int.tmod_lt_of_pos _ (by omega)⟩
  · rename_i hk
    obtain ⟨f1, f2, f3, f4⟩ := src_facts hl ha'.1 hk
    have g1 := gt_byte hl (a.tmod l.length).toNat
    have g2 := gt_byte hl ((a + 1).tmod l.length).toNat
    split
    · exact ⟨Int.tmod_nonneg _ (by omega), Int.tmod_lt_of_pos _ (by omega)⟩
    · exact ⟨Int.tmod_nonneg _ (by omega), Int.tmod_lt_of_pos _ (by omega)⟩
theorem s_l1Next (l : List Int) (a n : Int) (hl : bytesOk l) (ha : atOk a) : X_spec_l1Next [pt 0, .int .i64 n] [srcM l a] = some (.int .i64 (nx l a n), [srcM l (a + 1)]) := by
  have ha' := ha
  obtain ⟨a0, a1⟩ := ha
  have w1 : IntKind.i64.wrap (a + 1) = a + 1 := wrap_i64 (by omega) (by omega)
  have w2 : IntKind.i64.wrap a = a := wrap_i64 (by omega) (by omega)
  have w3 : IntKind.i64.wrap (a * 7) = a * 7 := wrap_i64 (by omega) (by omega)
  by_cases hn : n < 1
  · simp -implicitDefEqProofs [X_spec_l1Next, retK_eq, w1, hn, nx]
  · have hn0 : ¬ n = 0 := by omega
    by_cases hk : l.length = 0
    · obtain rfl : l = [] := List.eq_nil_of_length_eq_zero hk
      simp -implicitDefEqProofs [X_spec_l1Next, retK_eq, w1, w2, w3, hn, hn0, nx]
    · obtain ⟨f1, f2, f3, f4⟩ := src_facts hl ha'.1 hk
      obtain ⟨e1, e2, _, _⟩ := src_facts hl (a := a + 1) (by omega) hk
      have g1 := gt_byte hl (a.tmod l.length).toNat
      have g2 := gt_byte hl ((a + 1).tmod l.length).toNat
      have hk1 : ¬ (l.length : Int) = 0 := by omega
      have hl0 : ¬ l = [] := fun e => hk (by rw [e]; rfl)
      have hx1 := ixa_frS eU8 (sz := 1) rfl .i64 f1 f2
      have hx2 := ixa_frS eU8 (sz := 1) rfl .i64 e1 e2
      have v1 : IntKind.i64.wrap (gt l (a.tmod l.length).toNat) = gt l (a.tmod l.length).toNat := wrap_i64 (by omega) (by omega)
      have v2 : IntKind.i64.wrap (gt l ((a + 1).tmod l.length).toNat) = gt l ((a + 1).tmod l.length).toNat := wrap_i64 (by omega) (by omega)
      have v3 : IntKind.i64.wrap (a.tdiv l.length) = a.tdiv l.length := wrap_i64 (by omega) (by omega)
      have v4 : IntKind.i64.wrap (a.tdiv l.length * 37) = a.tdiv l.length * 37 := wrap_i64 (by omega) (by omega)
      have v5 : IntKind.i64.wrap (gt l (a.tmod l.length).toNat + a.tdiv l.length * 37) = gt l (a.tmod l.length).toNat + a.tdiv l.length * 37 := wrap_i64 (by omega) (by omega)
      have v6 : IntKind.i64.wrap ((gt l (a.tmod l.length).toNat + a.tdiv l.length * 37) * 251) = (gt l (a.tmod l.length).toNat + a.tdiv l.length * 37) * 251 := wrap_i64 (by omega) (by omega)
      have v7 : IntKind.i64.wrap (gt l ((a + 1).tmod l.length).toNat * 13) = gt l ((a + 1).tmod l.length).toNat * 13 := wrap_i64 (by omega) (by omega)
      have v8 : IntKind.i64.wrap ((gt l (a.tmod l.length).toNat + a.tdiv l.length * 37) * 251 + gt l ((a + 1).tmod l.length).toNat * 13) = (gt l (a.tmod l.length).toNat + a.tdiv l.length * 37) * 251 + gt l ((a + 1).tmod l.length).toNat * 13 := wrap_i64 (by omega) (by omega)
      have v9 : IntKind.i64.wrap ((gt l (a.tmod l.length).toNat + a.tdiv l.length * 37) * 251 + gt l ((a + 1).tmod l.length).toNat * 13 + a) = (gt l (a.tmod l.length).toNat + a.tdiv l.length * 37) * 251 + gt l ((a + 1).tmod l.length).toNat * 13 + a := wrap_i64 (by omega) (by omega)
      by_cases h2 : 200 < n
      · simp (maxSteps := 400000) -implicitDefEqProofs [X_spec_l1Next, retK_eq, w1, w2, hn, hn0, nx, hk, hk1, hl0, hx1, hx2, v1, v2, v3, v4, v5, v6, v7, v8, v9, h2]
      · simp (maxSteps := 400000) -implicitDefEqProofs [X_spec_l1Next, retK_eq, w1, w2, hn, hn0, nx, hk, hk1, hl0, hx1, v1, v3, v4, v5, h2]
def pk (l : List Int) (a : Int) (xs : List Int) : Int := gt xs (nx l a xs.length).toNat
theorem pk_mem {l : List Int} (hl : bytesOk l) {a : Int} (ha : atOk a) {xs : List Int} (h : xs ≠ []) : pk l a xs ∈ xs := by
  have hp : 0 < xs.length := List.length_pos_iff.mpr h
  have hb := nx_bd hl ha (show (1 : Int) ≤ xs.length by omega)
  unfold pk
  rw [gt_lt (by omega)]
  exact List.getElem_mem _
theorem s_pickG (l : List Int) (a : Int) (xs : List Int) (hl : bytesOk l) (ha : atOk a) (h : xs ≠ []) : X_spec_l1Pick [pt 0, .slice (some ⟨1, 0, none⟩) xs.length xs.length] [srcM l a, ownB (eI .i64) xs] = some (.int .i64 (pk l a xs), [srcM l (a + 1), ownB (eI .i64) xs]) := by
  have hp : 0 < xs.length := List.length_pos_iff.mpr h
  have hb := nx_bd hl ha (show (1 : Int) ≤ xs.length by omega)
  have hn := s_l1Next l a xs.length hl ha
  have hx := fun o c => ixa_sl (sz := 1) .i64 (n := 1) (o := o) (len := xs.length) (c := c) hb.1 hb.2
  obtain ⟨j, hj⟩ := Int.eq_ofNat_of_zero_le hb.1
  have hc : (cellsE (eI .i64) xs)[j]? = some (.int .i64 (gt xs j)) := by
    have := cell_at (eI .i64) (l := xs) (i := j) (o := 0) (by omega) (by decide)
    simpa using this
  have e : pk l a xs = gt xs j := by unfold pk; rw [hj]; rfl
  rw [hj] at hn hx
  rw [e]
  simp (maxSteps := 400000) -implicitDefEqProofs [X_spec_l1Pick, retK_eq, hn, hx, hc]
theorem s_pick2 (l : List Int) (a x y : Int) (hl : bytesOk l) (ha : atOk a) : X_spec_l1Pick [pt 0, .slice (some ⟨1, 0, none⟩) 2 2] [srcM l a, ⟨[.int .i64 x, .int .i64 y], 1, true, true⟩] = some (.int .i64 (pk l a [x, y]), [srcM l (a + 1), ⟨[.int .i64 x, .int .i64 y], 1, true, true⟩]) := s_pickG l a [x, y] hl ha (by simp)
theorem s_pick3 (l : List Int) (a x y z : Int) (hl : bytesOk l) (ha : atOk a) : X_spec_l1Pick [pt 0, .slice (some ⟨1, 0, none⟩) 3 3] [srcM l a, ⟨[.int .i64 x, .int .i64 y, .int .i64 z], 1, true, true⟩] = some (.int .i64 (pk l a [x, y, z]), [srcM l (a + 1), ⟨[.int .i64 x, .int .i64 y, .int .i64 z], 1, true, true⟩]) := s_pickG l a [x, y, z] hl ha (by simp)
theorem s_pick4 (l : List Int) (a x y z u : Int) (hl : bytesOk l) (ha : atOk a) : X_spec_l1Pick [pt 0, .slice (some ⟨1, 0, none⟩) 4 4] [srcM l a, ⟨[.int .i64 x, .int .i64 y, .int .i64 z, .int .i64 u], 1, true, true⟩] = some (.int .i64 (pk l a [x, y, z, u]), [srcM l (a + 1), ⟨[.int .i64 x, .int .i64 y, .int .i64 z, .int .i64 u], 1, true, true⟩]) := s_pickG l a [x, y, z, u] hl ha (by simp)
theorem s_pick5 (l : List Int) (a x y z u v : Int) (hl : bytesOk l) (ha : atOk a) : X_spec_l1Pick [pt 0, .slice (some ⟨1, 0, none⟩) 5 5] [srcM l a, ⟨[.int .i64 x, .int .i64 y, .int .i64 z, .int .i64 u, .int .i64 v], 1, true, true⟩] = some (.int .i64 (pk l a [x, y, z, u, v]), [srcM l (a + 1), ⟨[.int .i64 x, .int .i64 y, .int .i64 z, .int .i64 u, .int .i64 v], 1, true, true⟩]) := s_pickG l a [x, y, z, u, v] hl ha (by simp)
theorem s_pick7 (l : List Int) (a x y z u v w t : Int) (hl : bytesOk l) (ha : atOk a) : X_spec_l1Pick [pt 0, .slice (some ⟨1, 0, none⟩) 7 7] [srcM l a, ⟨[.int .i64 x, .int .i64 y, .int .i64 z, .int .i64 u, .int .i64 v, .int .i64 w, .int .i64 t], 1, true, true⟩] = some (.int .i64 (pk l a [x, y, z, u, v, w, t]), [srcM l (a + 1), ⟨[.int .i64 x, .int .i64 y, .int .i64 z, .int .i64 u, .int .i64 v, .int .i64 w, .int .i64 t], 1, true, true⟩]) := s_pickG l a [x, y, z, u, v, w, t] hl ha (by simp)
theorem s_l1Source (l : List Int) : X_spec_l1Source [frS eU8 l] [] = some (pt 0, [srcM l 0]) := by
  simp -implicitDefEqProofs [X_spec_l1Source, retK_eq]
theorem s_lwBig (l : List Int) : X_laws_lwBig [frS eU8 l] [] = some (.bool (decide (1048576 < l.length)), []) := by
  simp -implicitDefEqProofs [X_laws_lwBig, retK_eq]
  omega
theorem bytes_small {l : List Int} (h : ¬ 1048576 < l.length) (hb : ∀ x ∈ l, 0 ≤ x ∧ x < 256) : bytesOk l := ⟨by omega, hb⟩
theorem icall_all {X : List Value → Mem → Option VM} {args : List Value} {v : Value} (h : icall X args [] = some (v, [])) (m : Mem) : icall X args m = some (v, m) := by
  unfold icall at h ⊢
  split at h
  · rename_i ha
    rw [if_pos ha]
    obtain ⟨r, h1, h2⟩ := ob_eq h
    obtain ⟨w, h3, h4⟩ := ob_eq h2
    cases h4
    rw [h1, ob_some, h3, ob_some]
  · cases h
end Go.Ab
