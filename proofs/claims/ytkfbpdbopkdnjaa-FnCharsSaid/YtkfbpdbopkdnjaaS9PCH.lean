/- What the functions of the program answer, for all arguments that the theorems name as conditions. -/
import Derived.Test.YtkfbpdbopkdnjaaS9Q8
import Derived.Test.YtkfbpdbopkdnjaaS9E5
namespace Go.Ab
open Go.Proofs
set_option linter.unusedSimpArgs false
set_option linter.unusedVariables false
set_option maxHeartbeats 40000000

/-! ## FnChars -/
theorem s_lwAt (l : List Int) (hl : bytesOk l) (n : Int) (h0 : 1 ≤ n) (h1 : n ≤ 100000) : ∃ c : Int, 0 ≤ c ∧ c < n ∧ X_laws_lwAt [frS eU8 l, .int .i64 3, .int .i64 n] [] = some (.int .i64 c, []) := by
  by_cases hn : n ≤ 1
  · refine ⟨0, by omega, by omega, ?_⟩
    simp -implicitDefEqProofs [X_laws_lwAt, retK_eq, hn]
  have hn0 : ¬ n = 0 := by omega
  by_cases hk : l.length = 0
  · obtain rfl : l = [] := List.eq_nil_of_length_eq_zero hk
    have w3 : IntKind.i64.wrap 21 = 21 := wrap_i64 (by omega) (by omega)
    refine ⟨(21 : Int).tmod n, Int.tmod_nonneg _ (by omega), Int.tmod_lt_of_pos _ (by omega), ?_⟩
    simp -implicitDefEqProofs [X_laws_lwAt, retK_eq, hn, hn0, w3]
  obtain ⟨f1, f2, f3, f4⟩ := src_facts hl (a := 3) (by omega) hk
  obtain ⟨g1, g2, _, _⟩ := src_facts hl (a := 4) (by omega) hk
  have b1 := gt_byte hl ((3 : Int).tmod l.length).toNat
  have b2 := gt_byte hl ((4 : Int).tmod l.length).toNat
  have hk1 : ¬ (l.length : Int) = 0 := by omega
  have hl0 : ¬ l = [] := fun e => hk (by rw [e]; rfl)
  have hx1 := ixa_frS eU8 (sz := 1) rfl .i64 f1 f2
  have hx2 := ixa_frS eU8 (sz := 1) rfl .i64 g1 g2
  have w0 : IntKind.i64.wrap 4 = 4 := wrap_i64 (by omega) (by omega)
  have v1 : IntKind.i64.wrap (gt l ((3 : Int).tmod l.length).toNat) = gt l ((3 : Int).tmod l.length).toNat := wrap_i64 (by omega) (by omega)
  have v2 : IntKind.i64.wrap (gt l ((4 : Int).tmod l.length).toNat) = gt l ((4 : Int).tmod l.length).toNat := wrap_i64 (by omega) (by omega)
  have v3 : IntKind.i64.wrap ((3 : Int).tdiv l.length) = (3 : Int).tdiv l.length := wrap_i64 (by omega) (by omega)
  have v4 : IntKind.i64.wrap ((3 : Int).tdiv l.length * 3) = (3 : Int).tdiv l.length * 3 := wrap_i64 (by omega) (by omega)
  have v5 : IntKind.i64.wrap (gt l ((3 : Int).tmod l.length).toNat + (3 : Int).tdiv l.length * 3) = gt l ((3 : Int).tmod l.length).toNat + (3 : Int).tdiv l.length * 3 := wrap_i64 (by omega) (by omega)
  have v6 : IntKind.i64.wrap ((gt l ((3 : Int).tmod l.length).toNat + (3 : Int).tdiv l.length * 3) * 251) = (gt l ((3 : Int).tmod l.length).toNat + (3 : Int).tdiv l.length * 3) * 251 := wrap_i64 (by omega) (by omega)
  have v7 : IntKind.i64.wrap ((gt l ((3 : Int).tmod l.length).toNat + (3 : Int).tdiv l.length * 3) * 251 + gt l ((4 : Int).tmod l.length).toNat) = (gt l ((3 : Int).tmod l.length).toNat + (3 : Int).tdiv l.length * 3) * 251 + gt l ((4 : Int).tmod l.length).toNat := wrap_i64 (by omega) (by omega)
  by_cases h2 : 200 < n
  · refine ⟨((gt l ((3 : Int).tmod l.length).toNat + (3 : Int).tdiv l.length * 3) * 251 + gt l ((4 : Int).tmod l.length).toNat).tmod n, Int.tmod_nonneg _ (by omega), Int.tmod_lt_of_pos _ (by omega), ?_⟩
    simp (maxSteps := 400000) -implicitDefEqProofs [X_laws_lwAt, retK_eq, hn, hn0, hk, hk1, hl0, hx1, hx2, w0, v1, v2, v3, v4, v5, v6, v7, h2]
  · refine ⟨(gt l ((3 : Int).tmod l.length).toNat + (3 : Int).tdiv l.length * 3).tmod n, Int.tmod_nonneg _ (by omega), Int.tmod_lt_of_pos _ (by omega), ?_⟩
    simp (maxSteps := 400000) -implicitDefEqProofs [X_laws_lwAt, retK_eq, hn, hn0, hk, hk1, hl0, hx1, hx2, w0, v1, v2, v3, v4, v5, v6, v7, h2]
theorem l_lwNums (r : List Int) : ∀ (p : List Int) (q : Nat), r.length < q → (p ++ r).length < 1000000000 → L_laws_lwNums 0 q 0 [frS eI6 (p ++ r), frS eI6 (p ++ r), .int .i64 p.length] [] = some (.bool true, []) := by
  induction r with
  | nil =>
    intro p q hq hl
    obtain ⟨q, rfl⟩ : ∃ n, q = n + 1 := ⟨q - 1, by omega⟩
    simp +contextual -implicitDefEqProofs [L_laws_lwNums, retK_eq]
  | cons x r ih =>
    intro p q hq hl
    obtain ⟨q, rfl⟩ : ∃ n, q = n + 1 := ⟨q - 1, by omega⟩
    have h := ih (p ++ [x]) q (by simp at hq; omega) (by simpa using hl)
    simp at h
    have hx := ixa_mid eI6 (sz := 1) rfl .i64 p x r
    have hw := wrap_next (n := p.length) (by simp at hl; omega)
    simp +contextual -implicitDefEqProofs [L_laws_lwNums, retK_eq, cutK_eq, hx, hw, h]
theorem s_lwNums (a : List Int) (ha : a.length < 1000000000) : X_laws_lwNums [frS eI6 a, frS eI6 a] [] = some (.bool true, []) := by
  have h2 := l_lwNums a [] QQ (by unfold QQ; omega) (by simpa using ha)
  simp at h2
  simp +contextual -implicitDefEqProofs [X_laws_lwNums, cutK_eq, retK_eq, h2]
theorem s_FnChars (l : List Int) (hb : ∀ x ∈ l, 0 ≤ x ∧ x < 256) : X_laws_FnChars [frS eU8 l] [] = some (.bool true, []) := by
  have b0 := s_lwBig l
  by_cases hbig : 1048576 < l.length
  · simp -implicitDefEqProofs [X_laws_FnChars, retK_eq, b0, hbig]
  have hl := bytes_small hbig hb
  obtain ⟨d, data, hdl, hdb, e1⟩ := d_DecodeMany l hl []
  have e1 := icall_all e1
  obtain ⟨list, hll, e2⟩ := d_EncodeAll l hl []
  have e2 := icall_all e2
  by_cases hok : decB d = true ∧ data.length ≤ 2000
  · obtain ⟨h1, h2⟩ := hok
    have z1 := z_impl_DecodeMany d data h1 h2 hdb
    have z2 := z_spec_DecodeMany d data h1 h2 hdb
    have w1 : IntKind.i64.wrap ((data.length : Int) + 1) = data.length + 1 := wrap_i64 (by omega) (by omega)
    obtain ⟨cut, hc0, hc1, e3⟩ := s_lwAt l hl (data.length + 1) (by omega) (by omega)
    obtain ⟨c, rfl⟩ := Int.eq_ofNat_of_zero_le hc0
    have hc : c ≤ data.length := by omega
    have t1 := fun m => sl_frS eU8 m (sz := 1) rfl (l := data) (lo := none) (hi := some (.int .i64 c)) (a := 0) (b := c) rfl (bnd_nat _ _ _) (by omega) hc
    have t2 := fun m => sl_frS eU8 m (sz := 1) rfl (l := data) (lo := some (.int .i64 c)) (hi := none) (a := c) (b := data.length) (bnd_nat _ _ _) rfl hc (by omega)
    have q1 : (data.drop 0).take (c - 0) = data.take c := by simp
    have q2 : (data.drop c).take (data.length - c) = data.drop c := List.take_of_length_le (by simp)
    simp only [q1] at t1
    simp only [q2] at t2
    have hb1 : ∀ x ∈ data.take c, 0 ≤ x ∧ x < 256 := fun x hx => hdb x (List.mem_of_mem_take hx)
    have hb2 : ∀ x ∈ data.drop c, 0 ≤ x ∧ x < 256 := fun x hx => hdb x (List.mem_of_mem_drop hx)
    obtain ⟨fa, fb⟩ := feed_dec (data.take c) d h1 hb1
    obtain ⟨fc, fd⟩ := feed_dec data d h1 hdb
    have z3 := z_impl_DecodeMany d (data.take c) h1 (by simp; omega) hb1
    have z4 := z_impl_DecodeMany (feedD d (data.take c)).2 (data.drop c) fa (by simp; omega) hb2
    obtain ⟨_, fe⟩ := feed_dec (data.drop c) _ fa hb2
    have hap := feed_app (data.take c) (data.drop c) d
    rw [List.take_append_drop] at hap
    have hfl := congrArg Prod.fst hap
    have hfd := congrArg Prod.snd hap
    simp only at hfl hfd
    have z5 := s_impl_DecoderFault (feedD d data).2
    have ef : decF (feedD d data).2 = 0 := by simp [decF, fc]
    rw [ef] at z5
    have z6 := z_impl_EncodeAll list (by omega)
    have z7 := z_spec_EncodeAll list (by omega)
    have z8 := s_lwNums (feedD d data).1 (by omega)
    rw [← hfd] at z4
    have r1 : (feedD d (data.take c)).1.length ≤ 4000 := by simp at fb; omega
    have r2 : (feedD (feedD d (data.take c)).2 (data.drop c)).1.length ≤ 4000 := by simp at fe; omega
    generalize (feedD d (data.take c)).1 = ca at *
    generalize (feedD (feedD d (data.take c)).2 (data.drop c)).1 = cb at *
    generalize (feedD d (data.take c)).2 = da at *
    generalize (feedD d data).2 = dd at *
    generalize (feedD d data).1 = cc at *
    subst hfl
    have p1 := fun m n o c => apL_frS (E := eI6) (m := m) (sz := 1) (bytes := 8) (n := n) (o := o) (len := 0) (c := c) (l := ca) rfl (by omega) (by omega)
    have p2 := fun m n o c => apL_frS (E := eI6) (m := m) (sz := 1) (bytes := 8) (n := n) (o := o) (len := ca.length) (c := c) (l := cb) rfl (by omega) (by omega)
    have p3 := fun m n cs k => apB_own (E := eI6) (m := m) (l := ca) (n := n) (sz := 1) (cs := cs) (k := k) rfl
    have k1 : (⟨cellsE eI6 ca, 1, true, true⟩ : Blk) = ownB eI6 ca := rfl
    have k2 : (⟨cellsE eI6 ca ++ cellsE eI6 cb, 1, true, true⟩ : Blk) = ownB eI6 (ca ++ cb) := mk_own2 eI6 _ _ 1 rfl
    have f1 := fun k m => fzO_own eI6 k m (ca ++ cb)
    simp only [List.length_append] at f1
    by_cases hk : encK list = 0
    · have hac : list.length ≤ 400 ∧ allCh list = true := by
        unfold encK at hk
        split at hk
        · split at hk
          · rename_i a b; exact ⟨a, b⟩
          · cases hk
        · cases hk
      have ex : encX list = encL list := by unfold encX; rw [if_pos hac]
      have el := encL_len list
      have z9 := z_impl_DecodeMany dec0 (encL list) (by decide) (by omega) (encL_bd list hac.2)
      rw [feed_encL list hac.2] at z9
      have z10 := s_lwNums list (by omega)
      rw [hk, ex] at z6 z7
      simp only [dec0] at z9
      simp (maxSteps := 4000000) -implicitDefEqProofs [-icall_eq, X_laws_FnChars, retK_eq, b0, hbig, e1, e2, e3, w1, t1, t2, z1, z2, z3, z4, z5, z6, z7, z8, z9, z10, p1, p2, p3, k1, k2, f1, eqFX_cons]
    · generalize encK list = kk at *
      simp (maxSteps := 4000000) -implicitDefEqProofs [-icall_eq, X_laws_FnChars, retK_eq, b0, hbig, e1, e2, e3, w1, t1, t2, z1, z2, z3, z4, z5, z6, z7, z8, hk, p1, p2, p3, k1, k2, f1, eqFX_cons]
  · have z1 := z_impl_DecodeMany_bad d data hok
    have z2 := z_spec_DecodeMany_bad d data hok
    have hk : ¬ (if decB d = true then (2 : Int) else 3) = 0 := by split <;> omega
    generalize (if decB d = true then (2 : Int) else 3) = k at *
    simp (maxSteps := 4000000) -implicitDefEqProofs [-icall_eq, X_laws_FnChars, retK_eq, b0, hbig, e1, e2, z1, z2, hk]
def good : List Nat := [22, 5]
theorem good_ok : goodB CT good = true := by kernel_rfl
theorem all_FnChars : ∀ xs, TypedAll CT [22] xs → Fz CT 3 xs (.bool true)
  | [a], h => by
    obtain ⟨l, rfl, _, hb⟩ := typed_code (s := 22) (e := 5) h.1 rfl rfl rfl
    exact fz_law ok_X_laws_FnChars (s_FnChars l hb) (by simp)
  | [], h => h.elim
  | _ :: _ :: _, h => h.2.elim
end Go.Ab
