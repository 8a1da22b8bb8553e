/- What the functions of the program answer, for all arguments that the theorems name as conditions. -/
import Derived.Test.YtglkdfidjalkbaaS7G9b
import Derived.Test.YtglkdfidjalkbaaS7G13
namespace Go.Ab
set_option linter.unusedSimpArgs false
set_option linter.unusedVariables false
set_option maxHeartbeats 4000000

theorem s_spec_l3Attr2 (n : Int) : X_spec_l3Attr [.int .i64 n] [] = some (.bool (atB n), []) := by
  simp +contextual -implicitDefEqProofs [X_spec_l3Attr, s_spec_l1In, retK_eq, atB]
theorem eraL_set (l : List CellT) (i t : Nat) (z : CellT) (h : i ≤ t) (h2 : t < l.length) : (eraL l i t z).set t z = eraL l i (t + 1) z := by
  unfold eraL
  have hl : (l.take i ++ List.replicate (t - i) z).length = t := by simp; omega
  rw [List.set_append_right _ _ (by omega), hl, Nat.sub_self, List.drop_eq_getElem_cons h2, List.set_cons_zero, show t + 1 - i = (t - i) + 1 by omega, List.replicate_succ', List.append_assoc, List.append_assoc, List.append_assoc]
  rfl
theorem l_spec_l3Erase (g : GridT) (i j : Nat) (a : Int) (hj : j ≤ g.cs.length) (hs : g.cs.length < 1000000000) : ∀ (d t q : Nat), d = j - t → i ≤ t → t ≤ j → d < q → L_spec_l3Erase 3 q 0 [ptr 0, .int .i64 i, .int .i64 j, .int .i64 a, .int .i64 t] [blk [.int .i64 g.r, .int .i64 g.w, slO 1 g.cs.length, slO 2 g.bk.length], ownB eC (eraL g.cs i t ⟨32, a⟩), ownB eC g.bk] = some (.tuple #[], [blk [.int .i64 g.r, .int .i64 g.w, slO 1 g.cs.length, slO 2 g.bk.length], ownB eC (eraL g.cs i j ⟨32, a⟩), ownB eC g.bk]) := by
  intro d
  induction d with
  | zero =>
    intro t q hd hi ht hq
    obtain ⟨q, rfl⟩ : ∃ n, q = n + 1 := ⟨q - 1, by omega⟩
    obtain rfl : t = j := by omega
    simp -implicitDefEqProofs [L_spec_l3Erase, retK_eq]
  | succ d ih =>
    intro t q hd hi ht hq
    obtain ⟨q, rfl⟩ : ∃ n, q = n + 1 := ⟨q - 1, by omega⟩
    have h := ih (t + 1) q (by omega) (by omega) (by omega) (by omega)
    simp at h
    have hl : t < g.cs.length := by omega
    have e := eraL_len g.cs i t ⟨32, a⟩ hi (by omega)
    have hw := wrap_next (n := t) (by omega)
    have hx := fun n o cc => ixa_sl (sz := 2) .i64 (n := n) (o := o) (len := g.cs.length) (c := cc) (j := (t : Int)) (by omega) (by omega)
    have hy := lay_setC (eraL g.cs i t ⟨32, a⟩) t ⟨32, a⟩ (by omega)
    rw [eraL_set g.cs i t ⟨32, a⟩ hi hl] at hy
    have hlt : (t : Int) < j := by omega
    have hlt' : t < j := by omega
    simp at hx hy
    simp -implicitDefEqProofs [L_spec_l3Erase, retK_eq, cutK_eq, hw, hx, hy, hlt, hlt', h, e]
    omega
theorem s_spec_l3Erase (g : GridT) (i j : Nat) (a : Int) (h : i ≤ j) (hj : j ≤ g.cs.length) (hs : g.cs.length < 1000000000) : X_spec_l3Erase [ptr 0, .int .i64 i, .int .i64 j, .int .i64 a] [blk [.int .i64 g.r, .int .i64 g.w, slO 1 g.cs.length, slO 2 g.bk.length], ownB eC g.cs, ownB eC g.bk] = some (.tuple #[], [blk [.int .i64 g.r, .int .i64 g.w, slO 1 g.cs.length, slO 2 g.bk.length], ownB eC (eraL g.cs i j ⟨32, a⟩), ownB eC g.bk]) := by
  have h1 := l_spec_l3Erase g i j a hj hs (j - i) i QQ rfl (Nat.le_refl _) h (by unfold QQ; omega)
  have e : eraL g.cs i i ⟨32, a⟩ = g.cs := by simp [eraL]
  rw [e] at h1
  simp -implicitDefEqProofs [X_spec_l3Erase, retK_eq, cutK_eq, h1]
theorem s_spec_EraseCells_fault (g : GridT) (i j a : Int) (hg : g.small) (hf : ¬ faultG g = 0) : X_spec_EraseCells [gridV g, .int .i64 i, .int .i64 j, .int .i64 a] [] = some (resZ (faultG g), []) := by
  have c1 := fun rest => s_spec_l3Fault g hg rest
  have c4 := s_spec_l3Bad
  simp (maxSteps := 1000000) -implicitDefEqProofs [X_spec_EraseCells, retK_eq, c1, c4, hf]
theorem s_spec_EraseCells_bad (g : GridT) (i j a : Int) (hg : g.small) (hf : faultG g = 0) (ho : okEra g i j a = false) : X_spec_EraseCells [gridV g, .int .i64 i, .int .i64 j, .int .i64 a] [] = some (resZ 3, []) := by
  have c1 := fun rest => s_spec_l3Fault g hg rest
  have c4 := s_spec_l3Bad
  cases h1 : inB i 0 g.cs.length <;> cases h2 : inB j i g.cs.length <;> simp [okEra, h1, h2] at ho <;> simp (maxSteps := 1000000) -implicitDefEqProofs [X_spec_EraseCells, retK_eq, s_spec_l1In, s_spec_l3Attr2, c1, c4, hf, h1, h2, *]
theorem s_spec_EraseCells (g : GridT) (i j a : Int) (hg : g.small) (hf : faultG g = 0) (ho : okEra g i j a = true) : X_spec_EraseCells [gridV g, .int .i64 i, .int .i64 j, .int .i64 a] [] = some (resO (eraG g i j a) 0 1, [ownB eC (eraG g i j a).cs, ownB eC g.bk]) := by
  have c1 := fun rest => s_spec_l3Fault g hg rest
  have c4 := s_spec_l3Copy g hg
  have e1 := era_len ho
  have ho' := ho
  obtain ⟨h0, h1, h2⟩ := era_facts ho
  simp [okEra] at ho'
  obtain ⟨i, rfl⟩ := Int.eq_ofNat_of_zero_le h0
  obtain ⟨j, rfl⟩ := Int.eq_ofNat_of_zero_le (show 0 ≤ j by omega)
  have c5 := s_spec_l3Erase g i j a (by omega) (by omega) hg.1
  simp (maxSteps := 1000000) -implicitDefEqProofs [X_spec_EraseCells, retK_eq, s_spec_l1In, s_spec_l3Attr2, c1, c4, c5, hf, ho'.1, ho'.2.1, ho'.2.2, e1]
  simp [eraG]
end Go.Ab
