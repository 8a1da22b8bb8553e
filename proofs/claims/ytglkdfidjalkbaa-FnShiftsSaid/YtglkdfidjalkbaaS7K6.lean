/- What the functions of the program answer, for all arguments that the theorems name as conditions. -/
import Derived.Test.YtglkdfidjalkbaaS7G33
import Derived.Test.YtglkdfidjalkbaaS7K3a
namespace Go.Ab
set_option linter.unusedSimpArgs false
set_option linter.unusedVariables false
set_option maxHeartbeats 8000000

/-! ## Frozen answers of ResizeGrid, NewGrid -/
def kRe (g : GridT) (r w : Int) : Int := if faultG g = 0 then (if szB r w = true then 0 else 3) else faultG g
def gRe (g : GridT) (r w : Int) : GridT := if faultG g = 0 ∧ szB r w = true then reG g r w else gNo
theorem fz_post' (l post : List CellT) (k : Nat) (m : Mem) : fzO (k + 1) m (some (ownB eC (l ++ post))) 0 l.length = some (frS eC l) := by
  have h := fzO_part eC k m (l := l ++ post) (o := 0) (a := 0) (len := l.length) (by simp) (by simp)
  simpa using h
theorem z_impl_ResizeGrid (g : GridT) (r w : Int) (hg : g.small) (m : Mem) : icall X_impl_ResizeGrid [gridV g, .int .i64 r, .int .i64 w] m = some (resF (kRe g r w) (gRe g r w), m) := by
  by_cases hf : faultG g = 0
  · cases ho : szB r w
    · have h := s_impl_ResizeGrid_bad g r w hg hf ho
      simp -implicitDefEqProofs [h, kRe, gRe, hf, ho, gNo, frS_nil]
    · have h := s_impl_ResizeGrid g r w hg hf ho
      have e1 : (reG g r w).r = r := rfl
      have e2 : (reG g r w).w = w := rfl
      have e3 : reB g w = (reG g r w).bk := rfl
      have ec : reC g r w = (reG g r w).cs ++ (reC g r w).drop (r.toNat * w.toNat) := (List.take_append_drop _ _).symm
      rw [ec, e3] at h
      generalize (reC g r w).drop (r.toNat * w.toNat) = post at *
      have f1 := fz_post' (reG g r w).cs post
      clear ec
      simp -implicitDefEqProofs [h, kRe, gRe, hf, ho, f1]
  · have h := s_impl_ResizeGrid_fault g r w hg hf
    simp -implicitDefEqProofs [h, kRe, gRe, hf, gNo, frS_nil]
theorem z_spec_ResizeGrid (g : GridT) (r w : Int) (hg : g.small) (m : Mem) : icall X_spec_ResizeGrid [gridV g, .int .i64 r, .int .i64 w] m = some (resF (kRe g r w) (gRe g r w), m) := by
  by_cases hf : faultG g = 0
  · cases ho : szB r w
    · have h := s_spec_ResizeGrid_bad g r w hg hf ho
      simp -implicitDefEqProofs [h, kRe, gRe, hf, ho, gNo, frS_nil]
    · obtain ⟨bv, bm, hb, h⟩ := s_spec_ResizeGrid g r w hg hf ho
      have e1 : (reG g r w).r = r := rfl
      have e2 : (reG g r w).w = w := rfl
      have e3 : reB g w = (reG g r w).bk := rfl
      rw [e3] at hb
      rcases hb with ⟨h1, rfl, rfl⟩ | ⟨h1, rfl, rfl⟩
      · have e : frS eC (reG g r w).bk = roS 0 [] := by rw [h1]; exact frS_nil eC
        simp -implicitDefEqProofs [h, kRe, gRe, hf, ho, e, e1, e2]
      · simp -implicitDefEqProofs [h, kRe, gRe, hf, ho, e1, e2]
  · have h := s_spec_ResizeGrid_fault g r w hg hf
    simp -implicitDefEqProofs [h, kRe, gRe, hf, gNo, frS_nil]
theorem widN_mem (W V : Nat) : ∀ (k : Nat) (l : List CellT) (x : CellT), x ∈ widN W V k l → x ∈ l ∨ x = bl0
  | 0, l, x, h => by simp [widN] at h
  | k + 1, l, x, h => by
    rw [widN, List.mem_append] at h
    rcases h with h | h
    · unfold rowFit at h
      rcases List.mem_append.mp (List.mem_of_mem_take h) with h | h
      · exact .inl (List.mem_of_mem_take h)
      · exact .inr (List.eq_of_mem_replicate h)
    · rcases widN_mem W V k _ x h with h | h
      · exact .inl (List.mem_of_mem_drop h)
      · exact .inr h
theorem widN_same (W : Nat) : ∀ (k : Nat) (l : List CellT), l.length = k * W → widN W W k l = l
  | 0, l, h => by
    have : l = [] := List.eq_nil_of_length_eq_zero (by simpa using h)
    rw [this]; rfl
  | k + 1, l, h => by
    rw [Nat.succ_mul] at h
    rw [widN, widN_same W k _ (by rw [List.length_drop]; omega)]
    have : (l.take W).length = W := by rw [List.length_take]; omega
    unfold rowFit
    rw [this, Nat.sub_self, List.replicate_zero, List.append_nil, List.take_take, Nat.min_self, List.take_append_drop]
theorem re_same {g : GridT} (hf : faultG g = 0) : reG g g.r g.w = g ∧ szB g.r g.w = true := by
  have hs := szB_of hf
  refine ⟨?_, hs⟩
  obtain ⟨R, W, S, V, e, hR, hW, hS, hV, R1, R6, W2, W12, S1, S6, V2, V12, hcs, hbk, he, hdiv⟩ := re_facts hf hs
  have e1 : reC g g.r g.w = g.cs := by simp [reC, hR, hW, widN_same W R g.cs hcs]
  have e2 : reB g g.w = g.bk := by simp [reB, hW, hdiv, widN_same W e g.bk hbk]
  have e3 : (reC g g.r g.w).take (g.r.toNat * g.w.toNat) = g.cs := by
    rw [e1, hR, hW]
    exact List.take_of_length_le (by simp; omega)
  unfold reG
  rw [e2, e3]
theorem reG_ok {g : GridT} {r w : Int} (hf : faultG g = 0) (ho : szB r w = true) : faultG (reG g r w) = 0 ∧ (reG g r w).small := by
  obtain ⟨R, W, S, V, e, hR, hW, rfl, rfl, R1, R6, W2, W12, S1, S6, V2, V12, hcs, hbk, he, hdiv⟩ := re_facts hf ho
  obtain ⟨q1, q2, q3, q4, q5, q6, q7, q8, q9, q10, q11, q12⟩ := grid_facts hf
  have m3 : S * V ≤ 6 * 12 := Nat.mul_le_mul S6 V12
  have m4 : e * V ≤ 5 * 12 := Nat.mul_le_mul he V12
  have m5 : e * V ≤ 5 * V := Nat.mul_le_mul_right _ he
  have hl := reC_len (S := S) (V := V) hR hW
  have m6 := re_le (R := R) (S := S) (V := V)
  have hlF : (reG g S V).cs.length = S * V := by simp [reG, hl]; omega
  have eb : reB g V = widN W V e g.bk := by simp [reB, hW, hdiv]
  have hlb : (reG g S V).bk.length = e * V := by simp only [reG]; rw [eb, widN_len]
  have hz : okC bl0 = true := by decide
  have hcs : allC (reG g S V).cs = true := by
    unfold allC at q11 ⊢
    rw [List.all_eq_true] at q11 ⊢
    intro x hx
    simp only [reG, reC] at hx
    rcases List.mem_append.mp (List.mem_of_mem_take hx) with h | h
    · rcases widN_mem _ _ _ _ _ h with h | h
      · exact q11 x h
      · rw [h]; exact hz
    · rw [List.eq_of_mem_replicate h]; exact hz
  have hbk : allC (reG g S V).bk = true := by
    unfold allC at q12 ⊢
    rw [List.all_eq_true] at q12 ⊢
    intro x hx
    simp only [reG, reB] at hx
    rcases widN_mem _ _ _ _ _ hx with h | h
    · exact q12 x h
    · rw [h]; exact hz
  refine ⟨?_, by omega, by omega⟩
  unfold faultG
  rw [show szB (reG g S V).r (reG g S V).w = true from ho, if_pos rfl]
  have hform : formG (reG g S V) = true := by
    unfold formG
    rw [hlF, hlb, show (reG g S V).r = S from rfl, show (reG g S V).w = V from rfl]
    have t1 : ((e * V : Nat) : Int).tmod V = (((e * V) % V : Nat) : Int) := rfl
    rw [t1, Nat.mul_mod_left]
    simp
    omega
  rw [hform, hcs, hbk]
  rfl
theorem s_newGrid (R W : Nat) (h : R * W < 100000) : X_impl_newGrid [.int .i64 R, .int .i64 W] [] = some (.agg #[.int .i64 R, .int .i64 W, slO 0 (R * W), .slice none 0 0], [ownB eC (List.replicate (R * W) bl0)]) := by
  have hb := s_blanks 0 (R * W) (by omega)
  have w3 : IntKind.i64.wrap ((R : Int) * W) = ((R * W : Nat) : Int) := by rw [← Int.natCast_mul, wrap_i64 (by omega) (by omega)]
  generalize R * W = N at *
  simp -implicitDefEqProofs [X_impl_newGrid, retK_eq, hb, w3]
def kNw (r w : Int) : Int := if szB r w = true then 0 else 3
def gNw (r w : Int) : GridT := if szB r w = true then ⟨r, w, List.replicate (r.toNat * w.toNat) bl0, []⟩ else gNo
theorem z_impl_NewGrid (r w : Int) (m : Mem) : icall X_impl_NewGrid [.int .i64 r, .int .i64 w] m = some (resF (kNw r w) (gNw r w), m) := by
  cases ho : szB r w
  · simp -implicitDefEqProofs [X_impl_NewGrid, retK_eq, s_impl_sizeOk, kNw, gNw, ho, gNo, frS_nil]
  · have hb := szB_b ho
    obtain ⟨R, rfl⟩ := Int.eq_ofNat_of_zero_le (show 0 ≤ r by omega)
    obtain ⟨W, rfl⟩ := Int.eq_ofNat_of_zero_le (show 0 ≤ w by omega)
    have m1 : R * W ≤ 6 * 12 := Nat.mul_le_mul (by omega) (by omega)
    have c := s_newGrid R W (by omega)
    have hfr := fun j m => fzO_own eC j m (List.replicate (R * W) bl0)
    simp only [List.length_replicate] at hfr
    generalize hN : R * W = N at *
    simp -implicitDefEqProofs [X_impl_NewGrid, retK_eq, s_impl_sizeOk, kNw, gNw, ho, c, hfr, hN, frS_nil]
theorem z_spec_NewGrid (r w : Int) (m : Mem) : icall X_spec_NewGrid [.int .i64 r, .int .i64 w] m = some (resF (kNw r w) (gNw r w), m) := by
  cases ho : szB r w
  · simp -implicitDefEqProofs [X_spec_NewGrid, retK_eq, s_spec_l3Size, kNw, gNw, ho, gNo, frS_nil]
  · have hb := szB_b ho
    obtain ⟨R, rfl⟩ := Int.eq_ofNat_of_zero_le (show 0 ≤ r by omega)
    obtain ⟨W, rfl⟩ := Int.eq_ofNat_of_zero_le (show 0 ≤ w by omega)
    have m1 : R * W ≤ 6 * 12 := Nat.mul_le_mul (by omega) (by omega)
    have c := s_spec_l3New R W (by omega)
    have hfr := fun j m => fzO_own eC j m (List.replicate (R * W) bl0)
    simp only [List.length_replicate] at hfr
    generalize hN : R * W = N at *
    simp -implicitDefEqProofs [X_spec_NewGrid, retK_eq, s_spec_l3Size, kNw, gNw, ho, c, hfr, hN, frS_nil]
end Go.Ab
