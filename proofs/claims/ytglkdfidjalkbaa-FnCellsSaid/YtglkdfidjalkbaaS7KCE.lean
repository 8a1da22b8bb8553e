/- What the functions of the program answer, for all arguments that the theorems name as conditions. -/
import Derived.Test.YtglkdfidjalkbaaS7D5
import Derived.Test.YtglkdfidjalkbaaS7K2
import Derived.Test.YtglkdfidjalkbaaS7D4
namespace Go.Ab
set_option linter.unusedSimpArgs false
set_option linter.unusedVariables false
set_option maxHeartbeats 8000000

/-! ## FnCells -/
abbrev gB (g : GridT) : Blk := blk [.int .i64 g.r, .int .i64 g.w, frS eC g.cs, frS eC g.bk]
abbrev rB (k : Int) (g : GridT) : Blk := blk [.int .i64 k, .int .i64 g.r, .int .i64 g.w, frS eC g.cs, frS eC g.bk]
theorem l_FnCells1 (g : GridT) (y x : Int) (c : CellT) (hg : g.mid) (hf : faultG g = 0) (ho : okPut g y x c = true) : ∀ (d i q : Nat), d + i = g.cs.length → d < q → L_laws_FnCells 0 q 1 [pt 0, .int .i64 y, .int .i64 x, pt 1, pt 2, .int .i64 i] [gB g, blk [.int .i64 c.c, .int .i64 c.a], rB 0 (putG g y x c)] = some (.bool true, []) := by
  have hl := putG_len g y x c
  have hg1 := hg.1
  simp [okPut] at ho
  have ho' := ho
  obtain ⟨w1, w2, f1, f2, f3⟩ := place_facts hf ho.1
  obtain ⟨P, hP⟩ := Int.eq_ofNat_of_zero_le f1
  rw [hP] at w2
  have e1 : (putG g y x c).cs = g.cs.set P c := by simp only [putG, hP]; rfl
  have e2 : (putG g y x c).bk = g.bk := rfl
  have e3 : (putG g y x c).bk.length = g.bk.length := rfl
  intro d
  induction d with
  | zero =>
    intro i q hd hq
    obtain ⟨q, rfl⟩ : ∃ n, q = n + 1 := ⟨q - 1, by omega⟩
    have hlt : ¬ (i : Int) < (g.cs.length : Int) := by omega
    have hlt' : ¬ i < g.cs.length := by omega
    have c1 := s_lwCell (putG g y x c) y x
    have ev : lwC (putG g y x c) y x = c := by
      unfold lwC
      rw [show (putG g y x c).w = g.w from rfl, w1, hP, w2, hl, if_neg (by omega), e1]
      simp [gt, show P < g.cs.length by omega]
    rw [ev] at c1
    have c2 := s_impl_GridFault (putG g y x c) ⟨by omega, by have := hg.2; rw [e2]; omega⟩
    rw [put_fault g y x c hf (by simp [okPut, ho'])] at c2
    simp (maxSteps := 400000) -implicitDefEqProofs [L_laws_FnCells, retK_eq, cutK_eq, hlt, hlt', c1, c2, eqFX_cons, e3]
  | succ d ih =>
    intro i q hd hq
    obtain ⟨q, rfl⟩ : ∃ n, q = n + 1 := ⟨q - 1, by omega⟩
    have h := ih (i + 1) q (by omega) (by omega)
    have hlt : (i : Int) < (g.cs.length : Int) := by omega
    have hlt' : i < g.cs.length := by omega
    have hw := wrap_next (n := i) (by omega)
    by_cases hi : i = P
    · simp at h
      subst hi
      simp (maxSteps := 400000) -implicitDefEqProofs [L_laws_FnCells, retK_eq, cutK_eq, hlt, hlt', hw, w1, w2, hP, h]
    · have hi' : ¬ (i : Int) = (P : Int) := by omega
      have c1 := s_lwCell (putG g y x c) 0 i
      have ev : lwC (putG g y x c) 0 i = gt g.cs i := by
        rw [lwC_in _ _ (by omega) (by omega), e1]
        simp [gt, List.getElem?_set, hi, Ne.symm hi]
      rw [ev] at c1
      have hx := ixa_frS eC (sz := 2) rfl .i64 (l := g.cs) (j := (i : Int)) (by omega) (by omega)
      simp only [Int.toNat_natCast] at hx
      simp at h
      simp (maxSteps := 400000) -implicitDefEqProofs [L_laws_FnCells, retK_eq, cutK_eq, hlt, hlt', hw, w1, w2, hP, hi, hi', c1, hx, eqFX_cons, h]
theorem l_FnCells0 (g H E : GridT) (y x i j z k1 k2 : Int) (c : CellT) (G : GridT) (hg : g.mid) (hH : H.mid) (hE : k2 = 0 → E.cs.length = H.cs.length ∧ ∀ n, n < H.cs.length → gt E.cs n = wantE H i j z n) (hsp : ∀ m, icall X_spec_PutCell [gridV g, .int .i64 y, .int .i64 x, celV c] m = some (resF k1 G, m))
    (hpost : k1 = 0 → ∀ q, 500 < q → L_laws_FnCells 0 q 1 [pt 0, .int .i64 y, .int .i64 x, pt 1, pt 2, .int .i64 0] [gB g, blk [.int .i64 c.c, .int .i64 c.a], rB k1 G] = some (.bool true, [])) :
    ∀ (d n q : Nat), d + n = H.cs.length → d + 600 < q → L_laws_FnCells 0 q 0 [pt 0, .int .i64 y, .int .i64 x, pt 1, pt 2, pt 3, .int .i64 i, .int .i64 j, .int .i64 z, pt 4, .int .i64 n] [gB g, blk [.int .i64 c.c, .int .i64 c.a], rB k1 G, gB H, rB k2 E] = some (.bool true, []) := by
  have hg1 := hH.1
  have hpp : ∀ q, 500 < q → k1 = 0 → L_laws_FnCells 0 q 1 [pt 0, .int .i64 y, .int .i64 x, pt 1, pt 2, .int .i64 0] [gB g, blk [.int .i64 c.c, .int .i64 c.a], rB k1 G] = some (.bool true, []) := fun q hq h => hpost h q hq
  have hs2 := hsp [gB g, blk [.int .i64 c.c, .int .i64 c.a], rB k1 G, gB H, rB k2 E]
  intro d
  induction d with
  | zero =>
    intro n q hd hq
    obtain ⟨q, rfl⟩ : ∃ n, q = n + 1 := ⟨q - 1, by omega⟩
    have hlt : ¬ (n : Int) < (H.cs.length : Int) := by omega
    have hlt' : ¬ n < H.cs.length := by omega
    have hp := hpp q (by omega)
    by_cases hk : k1 = 0
    · have hp := hp hk
      subst hk
      simp (maxSteps := 400000) -implicitDefEqProofs [-icall_eq, L_laws_FnCells, retK_eq, cutK_eq, hlt, hlt', hp]
    · simp (maxSteps := 400000) -implicitDefEqProofs [-icall_eq, L_laws_FnCells, retK_eq, cutK_eq, hlt, hlt', hs2, hk]
  | succ d ih =>
    intro n q hd hq
    obtain ⟨q, rfl⟩ : ∃ n, q = n + 1 := ⟨q - 1, by omega⟩
    have hlt : (n : Int) < (H.cs.length : Int) := by omega
    have hlt' : n < H.cs.length := by omega
    by_cases hk2 : k2 = 0
    · obtain ⟨hE1, hE2⟩ := hE hk2
      subst hk2
      have h := ih (n + 1) q (by omega) (by omega)
      have hw := wrap_next (n := n) (by omega)
      have hx := ixa_frS eC (sz := 2) rfl .i64 (l := H.cs) (j := (n : Int)) (by omega) (by omega)
      have hx2 := ixa_frS eC (sz := 2) rfl .i64 (l := E.cs) (j := (n : Int)) (by omega) (by omega)
      simp only [Int.toNat_natCast] at hx hx2
      have hwn := hE2 n hlt'
      unfold wantE at hwn
      have hge : ¬ (E.cs.length : Int) ≤ n := by omega
      have hge' : ¬ E.cs.length ≤ n := by omega
      simp at h
      by_cases h1 : i ≤ n
      · by_cases h2 : (n : Int) < j
        · rw [if_pos ⟨h1, h2⟩] at hwn
          rw [hwn] at hx2
          simp (maxSteps := 400000) -implicitDefEqProofs [-icall_eq, L_laws_FnCells, retK_eq, cutK_eq, hlt, hlt', hw, hx, hx2, h1, h2, hge, hge', eqFX_cons, h]
        · rw [if_neg (by omega)] at hwn
          rw [hwn] at hx2
          simp (maxSteps := 400000) -implicitDefEqProofs [-icall_eq, L_laws_FnCells, retK_eq, cutK_eq, hlt, hlt', hw, hx, hx2, h1, h2, hge, hge', eqFX_cons, h]
      · rw [if_neg (by omega)] at hwn
        rw [hwn] at hx2
        simp (maxSteps := 400000) -implicitDefEqProofs [-icall_eq, L_laws_FnCells, retK_eq, cutK_eq, hlt, hlt', hw, hx, hx2, h1, hge, hge', eqFX_cons, h]
    · have hp := hpp q (by omega)
      by_cases hk : k1 = 0
      · have hp := hp hk
        subst hk
        simp (maxSteps := 400000) -implicitDefEqProofs [-icall_eq, L_laws_FnCells, retK_eq, cutK_eq, hlt, hlt', hk2, hp]
      · simp (maxSteps := 400000) -implicitDefEqProofs [-icall_eq, L_laws_FnCells, retK_eq, cutK_eq, hlt, hlt', hk2, hs2, hk]
theorem s_FnCells (l : List Int) (hb : ∀ x ∈ l, 0 ≤ x ∧ x < 256) : X_laws_FnCells [frS eU8 l] [] = some (.bool true, []) := by
  have c0 := s_lwBig l
  by_cases h0 : 1048576 < l.length
  · simp (maxSteps := 400000) -implicitDefEqProofs [X_laws_FnCells, retK_eq, c0, h0]
  · have hl := bytes_small h0 hb
    obtain ⟨g, y, x, c, hg, e1⟩ := d_PutCell l hl []
    obtain ⟨H, i, j, z, hH, e2⟩ := d_EraseCells l hl []
    have e1 := icall_all e1
    have e2 := icall_all e2
    have z1 := z_impl_PutCell g y x c (mid_small hg)
    have z2 := z_spec_PutCell g y x c (mid_small hg)
    have z3 := z_impl_EraseCells H i j z (mid_small hH)
    have z4 := z_spec_EraseCells H i j z (mid_small hH)
    have hE : kEra H i j z = 0 → (gEra H i j z).cs.length = H.cs.length ∧ ∀ n, n < H.cs.length → gt (gEra H i j z).cs n = wantE H i j z n := by
      intro hk
      unfold kEra at hk
      split at hk
      · rename_i hf
        split at hk
        · rename_i ho
          have : gEra H i j z = eraG H i j z := by unfold gEra; rw [if_pos ⟨hf, ho⟩]
          rw [this]
          exact ⟨era_len ho, fun n hn => era_want H i j z ho n hn⟩
        · cases hk
      · rename_i hf
        exact absurd hk hf
    have hP : kPut g y x c = 0 → ∀ q, 500 < q → L_laws_FnCells 0 q 1 [pt 0, .int .i64 y, .int .i64 x, pt 1, pt 2, .int .i64 0] [gB g, blk [.int .i64 c.c, .int .i64 c.a], rB (kPut g y x c) (gPut g y x c)] = some (.bool true, []) := by
      intro hk q hq
      have hk' := hk
      unfold kPut at hk
      split at hk
      · rename_i hf
        split at hk
        · rename_i ho
          have : gPut g y x c = putG g y x c := by unfold gPut; rw [if_pos ⟨hf, ho⟩]
          rw [this, hk']
          have hg1 := hg.1
          exact l_FnCells1 g y x c hg hf ho g.cs.length 0 q (by omega) (by omega)
        · cases hk
      · rename_i hf
        exact absurd hk hf
    have hH1 := hH.1
    have h := l_FnCells0 g H (gEra H i j z) y x i j z (kPut g y x c) (kEra H i j z) c (gPut g y x c) hg hH hE z2 hP H.cs.length 0 QQ (by omega) (by unfold QQ; omega)
    generalize kPut g y x c = k1 at *
    generalize gPut g y x c = G1 at *
    generalize kEra H i j z = k2 at *
    generalize gEra H i j z = G2 at *
    simp at h
    simp (maxSteps := 400000) -implicitDefEqProofs [-icall_eq, X_laws_FnCells, retK_eq, cutK_eq, c0, h0, e1, e2, z1, z2, z3, z4, h]
def good : List Nat := [2, 42, 5]
theorem good_ok : goodB CT good = true := by kernel_rfl
theorem all_FnCells : ∀ xs, TypedAll CT [42] xs → Fz CT 4 xs (.bool true)
  | [a], h => by
    obtain ⟨l, rfl, _, hb⟩ := typed_code (s := 42) (e := 5) h.1 rfl rfl rfl
    exact fz_law ok_X_laws_FnCells (s_FnCells l hb) (by simp)
  | [], h => h.elim
  | _ :: _ :: _, h => h.2.elim
end Go.Ab
