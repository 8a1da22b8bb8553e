/- What the functions of the program answer, for all arguments that the theorems name as conditions. -/
import Derived.Test.YtelkckbbelillaaS5G9a
namespace Go.Ab
set_option linter.unusedSimpArgs false
set_option linter.unusedVariables false
set_option maxHeartbeats 4000000

/-! ## Cells that move -/
def mvL (s : List CellT) (n : Int) (z : CellT) : List CellT := (List.range s.length).map fun (j : Nat) => if 0 ≤ (j : Int) - n ∧ (j : Int) - n < s.length then gt s ((j : Int) - n).toNat else z
@[simp] theorem mvL_len (s : List CellT) (n : Int) (z : CellT) : (mvL s n z).length = s.length := by simp [mvL]
theorem mvL_get (s : List CellT) (n : Int) (z : CellT) (j : Nat) (h : j < s.length) : (mvL s n z)[j]'(by simpa using h) = if 0 ≤ (j : Int) - n ∧ (j : Int) - n < s.length then gt s ((j : Int) - n).toNat else z := by simp [mvL]
theorem mv_pos (s : List CellT) (n : Int) (z : CellT) (f : Nat) (h0 : 0 < n) (hf : (f : Int) = min n s.length) : (List.replicate f z ++ s).take s.length = mvL s n z := by
  apply List.ext_getElem
  · simp
  · intro j h1 h2
    have hj : j < s.length := by simpa using h2
    rw [mvL_get s n z j hj, List.getElem_take, List.getElem_append]
    split
    · rename_i h
      rw [List.getElem_replicate, if_neg]
      simp at h
      omega
    · rename_i h
      simp at h
      rw [if_pos (by omega), gt_lt (by omega)]
      congr 1
      simp
      omega
theorem mv_neg (s : List CellT) (n : Int) (z : CellT) (f : Nat) (h0 : n ≤ 0) (hf : (f : Int) = min (-n) s.length) : (s ++ List.replicate f z).drop f = mvL s n z := by
  apply List.ext_getElem
  · simp
  · intro j h1 h2
    have hj : j < s.length := by simpa using h2
    rw [mvL_get s n z j hj, List.getElem_drop, List.getElem_append]
    split
    · rename_i h
      rw [if_pos (by omega), gt_lt (by omega)]
      congr 1
      omega
    · rename_i h
      rw [List.getElem_replicate, if_neg]
      omega
theorem bnd_nat (k : IntKind) (i d : Nat) : bndX (some (.int k (i : Int))) d = some i := by
  show (if (0 : Int) ≤ (i : Int) then some (i : Int).toNat else none) = some i
  rw [if_pos (by omega)]
  simp
abbrev bl0 : CellT := ⟨32, 0⟩
abbrev slQ (b o n c : Nat) : Value := .slice (some ⟨b, o, none⟩) n c
end Go.Ab
