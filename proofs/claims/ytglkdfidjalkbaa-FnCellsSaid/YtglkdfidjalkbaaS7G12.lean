/- What the functions of the program answer, for all arguments that the theorems name as conditions. -/
import Derived.Test.YtglkdfidjalkbaaS7G9a
import Derived.Test.YtglkdfidjalkbaaS7G11
namespace Go.Ab
set_option linter.unusedSimpArgs false
set_option linter.unusedVariables false
set_option maxHeartbeats 4000000

/-! ## EraseCells -/
def okEra (g : GridT) (i j a : Int) : Bool := inB i 0 g.cs.length && (inB j i g.cs.length && atB a)
def eraG (g : GridT) (i j a : Int) : GridT := ⟨g.r, g.w, eraL g.cs i.toNat j.toNat ⟨32, a⟩, g.bk⟩
theorem era_facts {g : GridT} {i j a : Int} (h : okEra g i j a = true) : 0 ≤ i ∧ i ≤ j ∧ j ≤ g.cs.length := by simp [okEra, inB] at h; omega
theorem s_impl_EraseCells_1 (g : GridT) (i j a : Int) : X_impl_EraseCells_1 [roP [.int .i64 i], roP [.int .i64 g.cs.length], roP [.int .i64 j], roP [.int .i64 a]] [] = some (.bool (okEra g i j a), []) := by
  cases h1 : inB i 0 g.cs.length <;> cases h2 : inB j i g.cs.length <;> simp (maxSteps := 1000000) -implicitDefEqProofs [X_impl_EraseCells_1, retK_eq, s_impl_in, s_impl_isAttr, h1, h2, okEra]
theorem s_impl_EraseCells_2 (g : GridT) (i j a : Int) (hg : g.small) (ho : okEra g i j a = true) : X_impl_EraseCells_2 [ptr 0, ptr 1, ptr 2, ptr 3] [blk [.int .i64 g.r, .int .i64 g.w, slO 4 g.cs.length, slO 5 g.bk.length], blk [.int .i64 i], blk [.int .i64 j], blk [.int .i64 a], ownB eC g.cs, ownB eC g.bk] = some (.tuple #[], [blk [.int .i64 g.r, .int .i64 g.w, slO 4 g.cs.length, slO 5 g.bk.length], blk [.int .i64 i], blk [.int .i64 j], blk [.int .i64 a], ownB eC (eraG g i j a).cs, ownB eC g.bk]) := by
  obtain ⟨h0, h1, h2⟩ := era_facts ho
  obtain ⟨i, rfl⟩ := Int.eq_ofNat_of_zero_le h0
  obtain ⟨j, rfl⟩ := Int.eq_ofNat_of_zero_le (show 0 ≤ j by omega)
  have ha := s_impl_Grid_eraseO g i j a (by omega) (by omega) hg.1
  simp (maxSteps := 1000000) -implicitDefEqProofs [X_impl_EraseCells_2, retK_eq, ha, eraG]
theorem s_impl_EraseCells_2E (g : GridT) (i j a : Int) (hg : g.small) (ho : okEra g i j a = true) : X_impl_EraseCells_2 [ptr 0, ptr 1, ptr 2, ptr 3] [blk [.int .i64 g.r, .int .i64 g.w, slO 4 g.cs.length, roS 0 []], blk [.int .i64 i], blk [.int .i64 j], blk [.int .i64 a], ownB eC g.cs] = some (.tuple #[], [blk [.int .i64 g.r, .int .i64 g.w, slO 4 g.cs.length, roS 0 []], blk [.int .i64 i], blk [.int .i64 j], blk [.int .i64 a], ownB eC (eraG g i j a).cs]) := by
  obtain ⟨h0, h1, h2⟩ := era_facts ho
  obtain ⟨i, rfl⟩ := Int.eq_ofNat_of_zero_le h0
  obtain ⟨j, rfl⟩ := Int.eq_ofNat_of_zero_le (show 0 ≤ j by omega)
  have ha := s_impl_Grid_erase g i j a (by omega) (by omega) hg.1
  simp (maxSteps := 1000000) -implicitDefEqProofs [X_impl_EraseCells_2, retK_eq, ha, eraG]
end Go.Ab
