/- What the functions of the program answer, for all arguments that the theorems name as conditions. -/
import Derived.Test.YtglkdfidjalkbaaS7G23
import Derived.Test.YtglkdfidjalkbaaS7G28
import Derived.Test.YtglkdfidjalkbaaS7K0
namespace Go.Ab
set_option linter.unusedSimpArgs false
set_option linter.unusedVariables false
set_option maxHeartbeats 8000000

/-! ## Sameness, frozen answers of ScrollGrid -/
theorem l_EqualC (r : List CellT) : ∀ (p : List CellT) (q : Nat), r.length < q → (p ++ r).length < 1000000000 → L_slices_Equal_impl_Cell_impl_Cell 0 q 0 [frS eC (p ++ r), frS eC (p ++ r), .int .i64 (p ++ r).length, .int .i64 p.length] [] = some (.bool true, []) := by
  induction r with
  | nil =>
    intro p q hq hl
    obtain ⟨q, rfl⟩ : ∃ n, q = n + 1 := ⟨q - 1, by omega⟩
    simp -implicitDefEqProofs [L_slices_Equal_impl_Cell_impl_Cell, retK_eq]
  | cons x r ih =>
    intro p q hq hl
    obtain ⟨q, rfl⟩ : ∃ n, q = n + 1 := ⟨q - 1, by omega⟩
    have h := ih (p ++ [x]) q (by simp at hq; omega) (by simpa using hl)
    simp at h
    have hx := ixa_mid eC (sz := 2) rfl .i64 p x r
    have hw := wrap_next (n := p.length) (by simp at hl; omega)
    simp +contextual -implicitDefEqProofs [L_slices_Equal_impl_Cell_impl_Cell, retK_eq, cutK_eq, hx, hw, eqFX_cons, h]
theorem s_EqualC (l : List CellT) (h : l.length < 1000000000) : X_slices_Equal_impl_Cell_impl_Cell [frS eC l, frS eC l] [] = some (.bool true, []) := by
  have h1 := l_EqualC l [] QQ (by unfold QQ; omega) (by simpa using h)
  simp at h1
  simp -implicitDefEqProofs [X_slices_Equal_impl_Cell_impl_Cell, retK_eq, cutK_eq, h1]
theorem s_SameGrids (g : GridT) (h : g.small) : X_impl_SameGrids [gridV g, gridV g] [] = some (.bool true, []) := by
  have h1 := s_EqualC g.cs h.1
  have h2 := s_EqualC g.bk h.2
  simp -implicitDefEqProofs [X_impl_SameGrids, retK_eq, cutK_eq, h1, h2]
def kSc (g : GridT) (t b n z : Int) : Int := if faultG g = 0 then (if okSc g t b n z = true then 0 else 3) else faultG g
def gSc (g : GridT) (t b n z : Int) : GridT := if faultG g = 0 ∧ okSc g t b n z = true then scG g t b n z else gNo
theorem z_impl_ScrollGrid (g : GridT) (t b n z : Int) (hg : g.small) (m : Mem) : icall X_impl_ScrollGrid [gridV g, .int .i64 t, .int .i64 b, .int .i64 n, .int .i64 z] m = some (resF (kSc g t b n z) (gSc g t b n z), m) := by
  by_cases hf : faultG g = 0
  · cases ho : okSc g t b n z
    · have h := s_impl_ScrollGrid_bad g t b n z hg hf ho
      simp -implicitDefEqProofs [h, kSc, gSc, hf, ho, gNo, frS_nil]
    · by_cases hk : t = 0 ∧ 0 < n
      · obtain ⟨rfl, hn⟩ := hk
        have h := s_impl_ScrollGridK g b n z hg hf ho hn
        have eb := scG_bk g b n z hn
        have ea := keep_all g.bk (scKp g b n) (5 * g.w).toNat
        rw [← eb] at ea
        rw [← ea] at h
        generalize keepP g.bk (scKp g b n) (5 * g.w).toNat = pre at *
        have f1 : ∀ (k : Nat) (m : Mem), fzO (k + 1) m (some (ownB eC (pre ++ (scG g 0 b n z).bk))) (pre.length * 2) (scG g 0 b n z).bk.length = some (frS eC (scG g 0 b n z).bk) := by
          intro k m
          have h := fzO_part eC k m (l := pre ++ (scG g 0 b n z).bk) (o := pre.length * 2) (a := pre.length) (len := (scG g 0 b n z).bk.length) rfl (by simp)
          simpa using h
        simp -implicitDefEqProofs [h, kSc, gSc, hf, ho, f1]
      · have e1 : (scG g t b n z).bk = g.bk := by simp only [scG]; rw [if_neg hk]
        have e2 : (scG g t b n z).bk.length = g.bk.length := by rw [e1]
        by_cases hb : g.bk = []
        · have h := s_impl_ScrollGrid0 g t b n z hg hf ho hk hb
          have e : frS eC (scG g t b n z).bk = roS 0 [] := by rw [e1, hb]; exact frS_nil eC
          simp -implicitDefEqProofs [h, kSc, gSc, hf, ho, e]
        · have h := s_impl_ScrollGrid g t b n z hg hf ho hk hb
          rw [← e1] at h
          simp -implicitDefEqProofs [h, kSc, gSc, hf, ho]
  · have h := s_impl_ScrollGrid_fault g t b n z hg hf
    simp -implicitDefEqProofs [h, kSc, gSc, hf, gNo, frS_nil]
theorem z_spec_ScrollGrid (g : GridT) (t b n z : Int) (hg : g.small) (m : Mem) : icall X_spec_ScrollGrid [gridV g, .int .i64 t, .int .i64 b, .int .i64 n, .int .i64 z] m = some (resF (kSc g t b n z) (gSc g t b n z), m) := by
  by_cases hf : faultG g = 0
  · cases ho : okSc g t b n z
    · have h := s_spec_ScrollGrid_bad g t b n z hg hf ho
      simp -implicitDefEqProofs [h, kSc, gSc, hf, ho, gNo, frS_nil]
    · have h := s_spec_ScrollGrid g t b n z hg hf ho (sc_len hf ho)
      simp -implicitDefEqProofs [h, kSc, gSc, hf, ho]
  · have h := s_spec_ScrollGrid_fault g t b n z hg hf
    simp -implicitDefEqProofs [h, kSc, gSc, hf, gNo, frS_nil]

/-! ### What a scrolled grid holds -/
theorem mul_le_iff {a b x W : Int} (h0 : 0 ≤ x) (h1 : x < W) : a * W ≤ b * W + x ↔ a ≤ b := by
  constructor
  · intro h
    rcases Int.lt_or_le b a with h2 | h2
    · have : (b + 1) * W ≤ a * W := Int.mul_le_mul_of_nonneg_right (by omega) (by omega)
      rw [Int.add_mul, Int.one_mul] at this
      omega
    · exact h2
  · intro h
    have : a * W ≤ b * W := Int.mul_le_mul_of_nonneg_right h (by omega)
    omega
theorem gt_mem {l : List CellT} {i : Nat} (h : i < l.length) : gt l i ∈ l := by rw [gt_lt h]; exact List.getElem_mem h
theorem shL_mem {l : List CellT} {a K : Nat} {n : Int} {z x : CellT} (h : a + K ≤ l.length) (hx : x ∈ shL l a K n z) : x ∈ l ∨ x = z := by
  obtain ⟨k, hk, rfl⟩ := List.getElem_of_mem hx
  have hl := shL_len l a K n z h
  have := shL_gt l a K n z h k (by omega)
  rw [gt_lt hk] at this
  rw [this]
  split
  · split
    · exact .inl (gt_mem (by omega))
    · exact .inr rfl
  · exact .inl (gt_mem (by omega))
theorem scG_ok {g : GridT} {t b n z : Int} (hf : faultG g = 0) (ho : okSc g t b n z = true) : faultG (scG g t b n z) = 0 := by
  obtain ⟨A, K, W, hW, hA, hB, K0, l1, l2, l3, W1, W2, n0, n1, t0, t1, b1, r6, e1, e2, e3, e4, e5, e6, e7, e8, e9, _⟩ := sc_facts hf ho
  obtain ⟨q1, q2, q3, q4, q5, q6, q7, q8, q9, q10, q11, q12⟩ := grid_facts hf
  have hs := szB_of hf
  have hl := sc_len hf ho
  have hz : okC ⟨32, z⟩ = true := by
    simp [okSc] at ho
    simp only [okC, ho.2.2.2, Bool.and_true]
    decide
  have hcs : allC (scG g t b n z).cs = true := by
    unfold allC at q11 ⊢
    rw [List.all_eq_true] at q11 ⊢
    intro x hx
    rcases shL_mem (by omega) hx with h | h
    · exact q11 x h
    · rw [h]; exact hz
  have hbk : allC (scG g t b n z).bk = true ∧ ((scG g t b n z).bk.length : Int) ≤ 5 * g.w ∧ Int.tmod (scG g t b n z).bk.length g.w = 0 := by
    simp only [scG]
    split
    · rename_i hk
      obtain ⟨rfl, hn⟩ := hk
      obtain ⟨G, W', hW', g1, g2, g3, g4, g5, g6, g7, g8, g9, gG⟩ := keep_facts hf ho hn
      have : W' = W := by omega
      subst this
      rw [g9]
      refine ⟨?_, ?_, ?_⟩
      · unfold allC at q11 q12 ⊢
        rw [List.all_eq_true] at q11 q12 ⊢
        intro x hx
        rcases List.mem_append.mp (List.mem_of_mem_drop hx) with h | h
        · exact q12 x h
        · rw [g8] at h
          exact q11 x (List.mem_of_mem_take h)
      · unfold keepL
        rw [List.length_drop, List.length_append, g7, hW]
        omega
      · have hmod : g.bk.length % W' = 0 := by
          rw [hW] at q10
          have : (g.bk.length : Int).tmod W' = ((g.bk.length % W' : Nat) : Int) := rfl
          omega
        have hG : G % W' = 0 := by
          obtain ⟨N, hN⟩ := Int.eq_ofNat_of_zero_le (show 0 ≤ min n (b + 1) by omega)
          rw [hN, ← Int.natCast_mul] at gG
          have : G = N * W' := by exact_mod_cast gG
          rw [this]
          exact Nat.mul_mod_left _ _
        have hlen : (keepL g.bk (scKp g b n) (5 * W')).length = min (g.bk.length + G) (5 * W') := by
          unfold keepL
          rw [List.length_drop, List.length_append, g7]
          omega
        rw [hlen, hW]
        show (((min (g.bk.length + G) (5 * W')) % W' : Nat) : Int) = 0
        rcases Nat.le_total (g.bk.length + G) (5 * W') with h | h
        · rw [Nat.min_eq_left h, Nat.add_mod, hmod, hG]
          simp
        · rw [Nat.min_eq_right h, Nat.mul_mod_left]
          rfl
    · exact ⟨q12, q9, q10⟩
  unfold faultG
  rw [show szB (scG g t b n z).r (scG g t b n z).w = true from hs, if_pos rfl]
  have hform : formG (scG g t b n z) = true := by
    unfold formG
    rw [hl, show (scG g t b n z).r = g.r from rfl, show (scG g t b n z).w = g.w from rfl]
    simp [q5, hbk.2.1, hbk.2.2]
  rw [hform, hcs, hbk.1]
  rfl
end Go.Ab
