/- The walk of impl.VtText over the machine, its two callees by contracts. -/
import Derived.Test.YtiepalcnkcjphaaShelf
import Derived.WalkKit
import Derived.BigCall
namespace Go.Ab
open Go.Proofs Go.RowKit
/-- What is gathered of the first k rows. -/
def acc (T : Nat → ByteArray) : Nat → List UInt8
  | 0 => []
  | k + 1 => acc T k ++ (T k ++ ⟨#[10]⟩).data.toList
theorem acc_len (T : Nat → ByteArray) (hT : ∀ k, (T k).size ≤ 1000) : ∀ k, (acc T k).length ≤ 1001 * k
  | 0 => by simp [acc]
  | k + 1 => by
    have h := acc_len T hT k
    have h2 := hT k
    have e : (T k ++ (⟨#[10]⟩ : ByteArray)).data.toList.length = (T k).size + 1 := by
      rw [Array.length_toList]
      show (T k ++ (⟨#[10]⟩ : ByteArray)).size = _
      rw [ByteArray.size_append]
      rfl
    rw [acc, List.length_append, e]
    omega
theorem al_last (w : World) (o : Obj) : (w.alloc o).heap[w.heap.size]? = some o := by
  show (w.heap.push o)[w.heap.size]? = some o
  simp
theorem al_old (w : World) (o : Obj) (k : Nat) (h : k < w.heap.size) : (w.alloc o).heap[k]? = w.heap[k]? := Below.heap_alloc w o k h
theorem al_size (w : World) (o : Obj) : (w.alloc o).heap.size = w.heap.size + 1 := by
  show (w.heap.push o).size = _
  simp
theorem isB_kept {T e : TypeId} {B b : Nat} {bs : List Value} {w w' : World} (h : Lib.IsBuilder T e B b bs w) (hb : Below w.heap.size w w') : Lib.IsBuilder T e B b bs w' := by
  have go : ∀ p, Lib.BuilderAt T e B b p bs w → Lib.BuilderAt T e B b p bs w' := fun p h => by
    have hlt := h.lt
    obtain ⟨hB, v, hv, hown, hne⟩ := h
    exact ⟨hB, v, (hb.block b hlt).trans hv, hown.kept (row := some b) ⟨hb.os, hb.tape, hb.output, hb.size, fun k hk _ => hb.block k hk⟩ (Or.inr hne), hne⟩
  exact h.elim (fun h => Or.inl (go _ h)) (fun h => Or.inr (go _ h))
section
variable (c0 c1 c2 c3 c4 c5 c6 c8 c9 c10 c11 c12 c13 c14 c15 c16 c17 c18 c19 c20 c21 c22 c23 c24 c25 c26 : Value) (r : Nat)
set_option maxHeartbeats 4000000 in
set_option maxRecDepth 100000 in
theorem vt_bad (c7 : Value) (fc : Int) (hfc : fc ≠ 0) (w : World)
    (hF : ∀ W, Below w.heap.size w W → Calls Try.prog 17 #[.agg #[c0, c1, c2, c3, c4, c5, c6, c7, c8, c9, c10, c11, c12, c13, c14, c15, c16, c17, c18, c19, c20, c21, c22, c23, c24, c25, c26]] W fun e W' => e = .returned (.int .i64 fc) ∧ Below W.heap.size W W') :
    Calls Try.prog 7 #[.agg #[c0, c1, c2, c3, c4, c5, c6, c7, c8, c9, c10, c11, c12, c13, c14, c15, c16, c17, c18, c19, c20, c21, c22, c23, c24, c25, c26]] w fun e w' => e = .returned (.agg #[.int .i64 fc, .string .empty]) ∧ Below w.heap.size w w' := by
  have b0 : ∀ o1 o2, Below w.heap.size w ((w.alloc o1).alloc o2) := fun o1 o2 => ((Below.refl _ w).alloc (Nat.le_refl _) _).alloc (by simp) _
  have hz : (fc == 0) = false := beq_eq_false_iff_ne.2 hfc
  go_enter Try.func7, Try.ntmps7
  go_wp2_with (first | (refine wpList_load_row rfl 47 (.tmp 1) rfl w.heap.size rfl 47 #[c0, c1, c2, c3, c4, c5, c6, c7, c8, c9, c10, c11, c12, c13, c14, c15, c16, c17, c18, c19, c20, c21, c22, c23, c24, c25, c26] (0, 0) _ (by rw [al_old _ _ _ (by rw [al_size]; omega)]; exact al_last _ _) Try.underlying47 rfl (by kernel_rfl) ?_) | (go_at_call 17; refine (hF _ (b0 _ _)).mono ?_))
  rintro e W1 ⟨rfl, b1⟩
  have x1 : W1.heap[w.heap.size + 1]? = some (.cells #[.int .i64 0, .string ⟨#[]⟩] 37 (0, 0)) := by
    rw [b1.block (w.heap.size + 1) (by rw [al_size, al_size]; omega), ← al_size w (.cells #[c0, c1, c2, c3, c4, c5, c6, c7, c8, c9, c10, c11, c12, c13, c14, c15, c16, c17, c18, c19, c20, c21, c22, c23, c24, c25, c26] 47)]
    exact al_last _ _
  have x2 : W1.cell? ⟨w.heap.size + 1, 0, none⟩ = some (.int .i64 0) := by rw [Lib.cell_of_heap x1]; rfl
  have x3 : W1.cell? ⟨w.heap.size + 1, 1, none⟩ = some (.string ⟨#[]⟩) := by rw [Lib.cell_of_heap x1]; rfl
  have f2 : W1.frozen? ⟨w.heap.size + 1, 0, none⟩ = false := Lib.frozen_of_heap x1 0
  have f3 : W1.frozen? ⟨w.heap.size + 1, 1, none⟩ = false := Lib.frozen_of_heap x1 1
  go_wp2
  (try simp only [Exit.inBlock, Exit.then])
  refine bodyPost_ret (results_cell_row (fn := Try.f7) (p := 2) (ty := 37) rfl _ _ (w.heap.size + 1) 37 #[.int .i64 fc, .string ⟨#[]⟩] (0, 0) _ rfl (by simp [World.setCell, Array.getElem?_modify, x1]) Try.underlying37 rfl (by kernel_rfl)) rfl ?_
  exact ⟨rfl, (((b0 _ _).trans (b1.mono (by rw [al_size, al_size]; omega))).setCell (Nat.le_succ _) _).setCell (Nat.le_succ _) _⟩
set_option maxHeartbeats 4000000 in
set_option maxRecDepth 100000 in
theorem vt_good (T : Nat → ByteArray) (hT : ∀ k, (T k).size ≤ 1000) (hr : r ≤ 6) (w : World)
    (hF : ∀ W, Below w.heap.size w W → Calls Try.prog 17 #[.agg #[c0, c1, c2, c3, c4, c5, c6, .int .i64 r, c8, c9, c10, c11, c12, c13, c14, c15, c16, c17, c18, c19, c20, c21, c22, c23, c24, c25, c26]] W fun e W' => e = .returned (.int .i64 0) ∧ Below W.heap.size W W')
    (hR : ∀ (W : World) (k : Nat), Below w.heap.size w W → W.heap[w.heap.size]? = some (.cells #[c0, c1, c2, c3, c4, c5, c6, .int .i64 r, c8, c9, c10, c11, c12, c13, c14, c15, c16, c17, c18, c19, c20, c21, c22, c23, c24, c25, c26] 47 (0, 0)) → k < r → Calls Try.prog 19 #[.pointer (some ⟨w.heap.size, 7, none⟩), .int .i64 k] W fun e W' => e = .returned (.string (T k)) ∧ Below W.heap.size W W') :
    Calls Try.prog 7 #[.agg #[c0, c1, c2, c3, c4, c5, c6, .int .i64 r, c8, c9, c10, c11, c12, c13, c14, c15, c16, c17, c18, c19, c20, c21, c22, c23, c24, c25, c26]] w fun e w' => e = .returned (.agg #[.int .i64 0, .string ⟨(acc T r).toArray⟩]) ∧ Below w.heap.size w w' := by
  have b0 : ∀ o1 o2, Below w.heap.size w ((w.alloc o1).alloc o2) := fun o1 o2 => ((Below.refl _ w).alloc (Nat.le_refl _) _).alloc (by simp) _
  go_enter Try.func7, Try.ntmps7
  go_wp2_with (first | (refine wpList_load_row rfl 47 (.tmp 1) rfl w.heap.size rfl 47 #[c0, c1, c2, c3, c4, c5, c6, .int .i64 r, c8, c9, c10, c11, c12, c13, c14, c15, c16, c17, c18, c19, c20, c21, c22, c23, c24, c25, c26] (0, 0) _ (by rw [al_old _ _ _ (by rw [al_size]; omega)]; exact al_last _ _) Try.underlying47 rfl (by kernel_rfl) ?_) | (go_at_call 17; refine (hF _ (b0 _ _)).mono ?_))
  rintro e W1 ⟨rfl, b1⟩
  have hN : w.heap.size + 2 ≤ W1.heap.size := by have := b1.size; rw [al_size, al_size] at this; omega
  have bw : Below w.heap.size w W1 := (b0 _ _).trans (b1.mono (by rw [al_size, al_size]; omega))
  have x0 : W1.heap[w.heap.size]? = some (.cells #[c0, c1, c2, c3, c4, c5, c6, .int .i64 r, c8, c9, c10, c11, c12, c13, c14, c15, c16, c17, c18, c19, c20, c21, c22, c23, c24, c25, c26] 47 (0, 0)) := by
    rw [b1.block w.heap.size (by rw [al_size, al_size]; omega), al_old _ _ _ (by rw [al_size]; omega)]
    exact al_last _ _
  have x1 : W1.heap[w.heap.size + 1]? = some (.cells #[.int .i64 0, .string ⟨#[]⟩] 37 (0, 0)) := by
    rw [b1.block (w.heap.size + 1) (by rw [al_size, al_size]; omega), ← al_size w (.cells #[c0, c1, c2, c3, c4, c5, c6, .int .i64 r, c8, c9, c10, c11, c12, c13, c14, c15, c16, c17, c18, c19, c20, c21, c22, c23, c24, c25, c26] 47)]
    exact al_last _ _
  have y7 : ∀ o, (W1.alloc o).cell? ⟨w.heap.size, 7, none⟩ = some (.int .i64 r) := fun o => by rw [Lib.cell_of_heap ((al_old W1 o _ (by omega)).trans x0)]; rfl
  clear hF b1
  go_wp2
  go_loopw [17] (fun i wr => ∃ k : Nat, k ≤ r ∧ i = .int .i64 k ∧ Lib.IsBuilder 64 5 W1.heap.size W1.heap.size (Lib.byteCells (acc T k)) wr ∧ Below W1.heap.size W1 wr) (fun i _ => r - (intOf i).toNat)
  case atStart => exact ⟨0, Nat.zero_le _, rfl, Lib.fresh_isBuilder 64 5 W1, (Below.refl _ W1).alloc (Nat.le_refl _) _⟩
  case round =>
    obtain ⟨k, hk, rfl, hB, hbel⟩ := hrel
    have hTk := hT k
    have hal := acc_len T hT k
    have hsz : (T k ++ (⟨#[10]⟩ : ByteArray)).size ≤ 1001 := by
      rw [ByteArray.size_append]
      have : (⟨#[10]⟩ : ByteArray).size = 1 := rfl
      omega
    have hk2 : (acc T k).length ≤ 7000 := by omega
    clear hal
    have q1 := bw.trans (hbel.mono (show w.heap.size ≤ W1.heap.size by omega))
    have q2 := (hbel.block w.heap.size (by omega)).trans x0
    have q3 := hbel.size
    have q4 := Try.Builder_String_any W1.heap.size W1.heap.size _ _ hB q3
    have q5 := fun h : k < r => hR wr k q1 q2 h
    clear x0 hR
    go_wp2_with (first | (go_at_call 19; refine (q5 (by assumption)).mono ?_) | (go_at_call 20; refine q4.mono ?_))
    · rintro e W2 ⟨rfl, b2⟩
      have hB2 := isB_kept hB b2
      have hbel2 : Below W1.heap.size W1 W2 := hbel.trans (b2.mono hbel.size)
      clear hB hbel b2 q1 q2 q3 q4 q5
      have q6 := Try.write W1.heap.size W1.heap.size _ (T k ++ ⟨#[10]⟩) _ hB2 (by rw [Lib.byteCells_length]; omega) hbel2.size
      go_wp2_with (go_at_call 18; refine q6.mono ?_)
      rintro e W3 ⟨rfl, h3, b3⟩
      have hlt : k < r := by assumption
      have hB3 : Lib.IsBuilder 64 5 W1.heap.size W1.heap.size (Lib.byteCells (acc T (k + 1))) W3 := by
        refine Or.inr ?_
        rw [Lib.strCells_eq] at h3
        simpa [Lib.byteCells, acc] using h3
      have hbel3 := hbel2.trans b3
      clear h3 hB2 hbel2 b3 q6
      go_wp2
      go_roundw
      case rel => exact ⟨k + 1, by omega, by go_num, hB3, hbel3⟩
      case measure => simp [intOf]; omega
    · rintro e W2 ⟨rfl, b2⟩
      have hbel2 : Below W1.heap.size W1 W2 := hbel.trans b2
      have hge : ¬ (k : Int) < r := by omega
      obtain rfl : k = r := by omega
      have z1 : W2.heap[w.heap.size + 1]? = some (.cells #[.int .i64 0, .string ⟨#[]⟩] 37 (0, 0)) := (hbel2.block _ (by omega)).trans x1
      have z2 : W2.cell? ⟨w.heap.size + 1, 0, none⟩ = some (.int .i64 0) := by rw [Lib.cell_of_heap z1]; rfl
      have z3 : W2.cell? ⟨w.heap.size + 1, 1, none⟩ = some (.string ⟨#[]⟩) := by rw [Lib.cell_of_heap z1]; rfl
      have f2 : W2.frozen? ⟨w.heap.size + 1, 0, none⟩ = false := Lib.frozen_of_heap z1 0
      have f3 : W2.frozen? ⟨w.heap.size + 1, 1, none⟩ = false := Lib.frozen_of_heap z1 1
      have bf : Below w.heap.size w W2 := bw.trans (hbel2.mono (by omega))
      clear hB hbel b2 hbel2 bw
      go_wp2
      (try simp only [Exit.inBlock, Exit.then])
      refine bodyPost_ret (results_cell_row (fn := Try.f7) (p := 2) (ty := 37) rfl _ _ (w.heap.size + 1) 37 #[.int .i64 0, .string ⟨(acc T k).toArray⟩] (0, 0) _ rfl (by simp [World.setCell, Array.getElem?_modify, z1]) Try.underlying37 rfl (by kernel_rfl)) rfl ?_
      exact ⟨rfl, (bf.setCell (Nat.le_succ _) _).setCell (Nat.le_succ _) _⟩
end
end Go.Ab
