/- What the functions of the program answer, for all arguments that the theorems name as conditions. -/
import Derived.Test.YtnmjgjedkdmefaaS4H6a
namespace Go.Ab
set_option linter.unusedSimpArgs false
set_option linter.unusedVariables false
set_option maxHeartbeats 4000000

/-! ## Sameness of lists -/
theorem l_spec_l4Ints (r : List Int) : ∀ (p p' r' : List Int) (q n : Nat), p.length = p'.length → r.length = r'.length → n = (p ++ r).length → r.length < q → n < 1000000000 → L_spec_l4Ints 0 q 0 [frS eI6 (p ++ r), frS eI6 (p' ++ r'), .int .i64 p.length] [] = some (.bool (r == r'), []) := by
  induction r with
  | nil =>
    intro p p' r' q n hp hr hn hq hl
    obtain ⟨q, rfl⟩ : ∃ n, q = n + 1 := ⟨q - 1, by omega⟩
    obtain rfl : r' = [] := List.eq_nil_of_length_eq_zero (by simpa using hr.symm)
    subst hn
    simp +contextual -implicitDefEqProofs [L_spec_l4Ints, retK_eq]
  | cons x r ih =>
    intro p p' r' q n hp hr hn hq hl
    obtain ⟨q, rfl⟩ : ∃ n, q = n + 1 := ⟨q - 1, by omega⟩
    cases r' with
    | nil => simp at hr
    | cons x' r' =>
      have h := ih (p ++ [x]) (p' ++ [x']) r' q n (by simp [hp]) (by simpa using hr) (by simpa using hn) (by simp at hq; omega) hl
      simp at h
      have hn' : n = p.length + (r.length + 1) := by simpa using hn
      subst hn'
      try simp at h
      have hx := ixa_mid eI6 (sz := 1) rfl .i64 p x r
      have hx' := ixa_mid eI6 (sz := 1) rfl .i64 p' x' r'
      rw [← hp] at hx'
      have hw := wrap_next (n := p.length) (by omega)
      simp +contextual -implicitDefEqProofs [L_spec_l4Ints, retK_eq, cutK_eq, hx, hx', hw, h]
      by_cases e : x = x' <;> simp [e]
theorem s_spec_l4Ints (a b : List Int) (ha : a.length < 1000000000) : X_spec_l4Ints [frS eI6 a, frS eI6 b] [] = some (.bool (a == b), []) := by
  by_cases h : a.length = b.length
  · have h2 := l_spec_l4Ints a [] [] b QQ a.length rfl h rfl (by unfold QQ; omega) ha
    simp at h2
    simp +contextual -implicitDefEqProofs [X_spec_l4Ints, cutK_eq, retK_eq, h, h2]
    try (rw [← h]; exact h2)
  · have h2 : ¬ (a.length : Int) = b.length := by omega
    have h3 : a ≠ b := fun e => h (by rw [e])
    simp +contextual -implicitDefEqProofs [X_spec_l4Ints, cutK_eq, retK_eq, h2, h3]
theorem l_spec_l5Bools (r : List Bool) : ∀ (p p' r' : List Bool) (q n : Nat), p.length = p'.length → r.length = r'.length → n = (p ++ r).length → r.length < q → n < 1000000000 → L_spec_l5Bools 0 q 0 [frS eB (p ++ r), frS eB (p' ++ r'), .int .i64 p.length] [] = some (.bool (r == r'), []) := by
  induction r with
  | nil =>
    intro p p' r' q n hp hr hn hq hl
    obtain ⟨q, rfl⟩ : ∃ n, q = n + 1 := ⟨q - 1, by omega⟩
    obtain rfl : r' = [] := List.eq_nil_of_length_eq_zero (by simpa using hr.symm)
    subst hn
    simp +contextual -implicitDefEqProofs [L_spec_l5Bools, retK_eq]
  | cons x r ih =>
    intro p p' r' q n hp hr hn hq hl
    obtain ⟨q, rfl⟩ : ∃ n, q = n + 1 := ⟨q - 1, by omega⟩
    cases r' with
    | nil => simp at hr
    | cons x' r' =>
      have h := ih (p ++ [x]) (p' ++ [x']) r' q n (by simp [hp]) (by simpa using hr) (by simpa using hn) (by simp at hq; omega) hl
      simp at h
      have hn' : n = p.length + (r.length + 1) := by simpa using hn
      subst hn'
      try simp at h
      have hx := ixa_mid eB (sz := 1) rfl .i64 p x r
      have hx' := ixa_mid eB (sz := 1) rfl .i64 p' x' r'
      rw [← hp] at hx'
      have hw := wrap_next (n := p.length) (by omega)
      simp +contextual -implicitDefEqProofs [L_spec_l5Bools, retK_eq, cutK_eq, hx, hx', hw, h]
      by_cases e : x = x' <;> simp [e]
theorem s_spec_l5Bools (a b : List Bool) (ha : a.length < 1000000000) : X_spec_l5Bools [frS eB a, frS eB b] [] = some (.bool (a == b), []) := by
  by_cases h : a.length = b.length
  · have h2 := l_spec_l5Bools a [] [] b QQ a.length rfl h rfl (by unfold QQ; omega) ha
    simp at h2
    simp +contextual -implicitDefEqProofs [X_spec_l5Bools, cutK_eq, retK_eq, h, h2]
    try (rw [← h]; exact h2)
  · have h2 : ¬ (a.length : Int) = b.length := by omega
    have h3 : a ≠ b := fun e => h (by rw [e])
    simp +contextual -implicitDefEqProofs [X_spec_l5Bools, cutK_eq, retK_eq, h2, h3]
theorem l_spec_l3SameCells (r : List CellT) : ∀ (p p' r' : List CellT) (q n : Nat), p.length = p'.length → r.length = r'.length → n = (p ++ r).length → r.length < q → n < 1000000000 → L_spec_l3SameCells 0 q 0 [frS eC (p ++ r), frS eC (p' ++ r'), .int .i64 p.length] [] = some (.bool (r == r'), []) := by
  induction r with
  | nil =>
    intro p p' r' q n hp hr hn hq hl
    obtain ⟨q, rfl⟩ : ∃ n, q = n + 1 := ⟨q - 1, by omega⟩
    obtain rfl : r' = [] := List.eq_nil_of_length_eq_zero (by simpa using hr.symm)
    subst hn
    simp +contextual -implicitDefEqProofs [L_spec_l3SameCells, retK_eq]
  | cons x r ih =>
    intro p p' r' q n hp hr hn hq hl
    obtain ⟨q, rfl⟩ : ∃ n, q = n + 1 := ⟨q - 1, by omega⟩
    cases r' with
    | nil => simp at hr
    | cons x' r' =>
      have h := ih (p ++ [x]) (p' ++ [x']) r' q n (by simp [hp]) (by simpa using hr) (by simpa using hn) (by simp at hq; omega) hl
      simp at h
      have hn' : n = p.length + (r.length + 1) := by simpa using hn
      subst hn'
      try simp at h
      have hx := ixa_mid eC (sz := 2) rfl .i64 p x r
      have hx' := ixa_mid eC (sz := 2) rfl .i64 p' x' r'
      rw [← hp] at hx'
      have hw := wrap_next (n := p.length) (by omega)
      simp +contextual -implicitDefEqProofs [L_spec_l3SameCells, retK_eq, cutK_eq, hx, hx', hw, h, eqFX_cons]
      obtain ⟨c, a⟩ := x
      obtain ⟨d, b⟩ := x'
      by_cases e : c = d <;> by_cases e2 : a = b <;> simp [e, e2]
theorem s_spec_l3SameCells (a b : List CellT) (ha : a.length < 1000000000) : X_spec_l3SameCells [frS eC a, frS eC b] [] = some (.bool (a == b), []) := by
  by_cases h : a.length = b.length
  · have h2 := l_spec_l3SameCells a [] [] b QQ a.length rfl h rfl (by unfold QQ; omega) ha
    simp at h2
    simp +contextual -implicitDefEqProofs [X_spec_l3SameCells, cutK_eq, retK_eq, h, h2]
    try (rw [← h]; exact h2)
  · have h2 : ¬ (a.length : Int) = b.length := by omega
    have h3 : a ≠ b := fun e => h (by rw [e])
    simp +contextual -implicitDefEqProofs [X_spec_l3SameCells, cutK_eq, retK_eq, h2, h3]
theorem l_slices_Equal_int64_int64 (r : List Int) : ∀ (p p' r' : List Int) (q n : Nat), p.length = p'.length → r.length = r'.length → n = (p ++ r).length → r.length < q → n < 1000000000 → L_slices_Equal_int64_int64 0 q 0 [frS eI6 (p ++ r), frS eI6 (p' ++ r'), .int .i64 n, .int .i64 p.length] [] = some (.bool (r == r'), []) := by
  induction r with
  | nil =>
    intro p p' r' q n hp hr hn hq hl
    obtain ⟨q, rfl⟩ : ∃ n, q = n + 1 := ⟨q - 1, by omega⟩
    obtain rfl : r' = [] := List.eq_nil_of_length_eq_zero (by simpa using hr.symm)
    subst hn
    simp +contextual -implicitDefEqProofs [L_slices_Equal_int64_int64, retK_eq]
  | cons x r ih =>
    intro p p' r' q n hp hr hn hq hl
    obtain ⟨q, rfl⟩ : ∃ n, q = n + 1 := ⟨q - 1, by omega⟩
    cases r' with
    | nil => simp at hr
    | cons x' r' =>
      have h := ih (p ++ [x]) (p' ++ [x']) r' q n (by simp [hp]) (by simpa using hr) (by simpa using hn) (by simp at hq; omega) hl
      simp at h
      have hn' : n = p.length + (r.length + 1) := by simpa using hn
      subst hn'
      try simp at h
      have hx := ixa_mid eI6 (sz := 1) rfl .i64 p x r
      have hx' := ixa_mid eI6 (sz := 1) rfl .i64 p' x' r'
      rw [← hp] at hx'
      have hw := wrap_next (n := p.length) (by omega)
      simp +contextual -implicitDefEqProofs [L_slices_Equal_int64_int64, retK_eq, cutK_eq, hx, hx', hw, h]
      by_cases e : x = x' <;> simp [e]
theorem s_slices_Equal_int64_int64 (a b : List Int) (ha : a.length < 1000000000) : X_slices_Equal_int64_int64 [frS eI6 a, frS eI6 b] [] = some (.bool (a == b), []) := by
  by_cases h : a.length = b.length
  · have h2 := l_slices_Equal_int64_int64 a [] [] b QQ a.length rfl h rfl (by unfold QQ; omega) ha
    simp at h2
    simp +contextual -implicitDefEqProofs [X_slices_Equal_int64_int64, cutK_eq, retK_eq, h, h2]
    try (rw [← h]; exact h2)
  · have h2 : ¬ (a.length : Int) = b.length := by omega
    have h3 : a ≠ b := fun e => h (by rw [e])
    simp +contextual -implicitDefEqProofs [X_slices_Equal_int64_int64, cutK_eq, retK_eq, h2, h3]
theorem l_slices_Equal_bool_bool (r : List Bool) : ∀ (p p' r' : List Bool) (q n : Nat), p.length = p'.length → r.length = r'.length → n = (p ++ r).length → r.length < q → n < 1000000000 → L_slices_Equal_bool_bool 0 q 0 [frS eB (p ++ r), frS eB (p' ++ r'), .int .i64 n, .int .i64 p.length] [] = some (.bool (r == r'), []) := by
  induction r with
  | nil =>
    intro p p' r' q n hp hr hn hq hl
    obtain ⟨q, rfl⟩ : ∃ n, q = n + 1 := ⟨q - 1, by omega⟩
    obtain rfl : r' = [] := List.eq_nil_of_length_eq_zero (by simpa using hr.symm)
    subst hn
    simp +contextual -implicitDefEqProofs [L_slices_Equal_bool_bool, retK_eq]
  | cons x r ih =>
    intro p p' r' q n hp hr hn hq hl
    obtain ⟨q, rfl⟩ : ∃ n, q = n + 1 := ⟨q - 1, by omega⟩
    cases r' with
    | nil => simp at hr
    | cons x' r' =>
      have h := ih (p ++ [x]) (p' ++ [x']) r' q n (by simp [hp]) (by simpa using hr) (by simpa using hn) (by simp at hq; omega) hl
      simp at h
      have hn' : n = p.length + (r.length + 1) := by simpa using hn
      subst hn'
      try simp at h
      have hx := ixa_mid eB (sz := 1) rfl .i64 p x r
      have hx' := ixa_mid eB (sz := 1) rfl .i64 p' x' r'
      rw [← hp] at hx'
      have hw := wrap_next (n := p.length) (by omega)
      simp +contextual -implicitDefEqProofs [L_slices_Equal_bool_bool, retK_eq, cutK_eq, hx, hx', hw, h]
      by_cases e : x = x' <;> simp [e]
theorem s_slices_Equal_bool_bool (a b : List Bool) (ha : a.length < 1000000000) : X_slices_Equal_bool_bool [frS eB a, frS eB b] [] = some (.bool (a == b), []) := by
  by_cases h : a.length = b.length
  · have h2 := l_slices_Equal_bool_bool a [] [] b QQ a.length rfl h rfl (by unfold QQ; omega) ha
    simp at h2
    simp +contextual -implicitDefEqProofs [X_slices_Equal_bool_bool, cutK_eq, retK_eq, h, h2]
    try (rw [← h]; exact h2)
  · have h2 : ¬ (a.length : Int) = b.length := by omega
    have h3 : a ≠ b := fun e => h (by rw [e])
    simp +contextual -implicitDefEqProofs [X_slices_Equal_bool_bool, cutK_eq, retK_eq, h2, h3]
theorem l_slices_Equal_impl_Cell_impl_Cell (r : List CellT) : ∀ (p p' r' : List CellT) (q n : Nat), p.length = p'.length → r.length = r'.length → n = (p ++ r).length → r.length < q → n < 1000000000 → L_slices_Equal_impl_Cell_impl_Cell 0 q 0 [frS eC (p ++ r), frS eC (p' ++ r'), .int .i64 n, .int .i64 p.length] [] = some (.bool (r == r'), []) := by
  induction r with
  | nil =>
    intro p p' r' q n hp hr hn hq hl
    obtain ⟨q, rfl⟩ : ∃ n, q = n + 1 := ⟨q - 1, by omega⟩
    obtain rfl : r' = [] := List.eq_nil_of_length_eq_zero (by simpa using hr.symm)
    subst hn
    simp +contextual -implicitDefEqProofs [L_slices_Equal_impl_Cell_impl_Cell, retK_eq]
  | cons x r ih =>
    intro p p' r' q n hp hr hn hq hl
    obtain ⟨q, rfl⟩ : ∃ n, q = n + 1 := ⟨q - 1, by omega⟩
    cases r' with
    | nil => simp at hr
    | cons x' r' =>
      have h := ih (p ++ [x]) (p' ++ [x']) r' q n (by simp [hp]) (by simpa using hr) (by simpa using hn) (by simp at hq; omega) hl
      simp at h
      have hn' : n = p.length + (r.length + 1) := by simpa using hn
      subst hn'
      try simp at h
      have hx := ixa_mid eC (sz := 2) rfl .i64 p x r
      have hx' := ixa_mid eC (sz := 2) rfl .i64 p' x' r'
      rw [← hp] at hx'
      have hw := wrap_next (n := p.length) (by omega)
      simp +contextual -implicitDefEqProofs [L_slices_Equal_impl_Cell_impl_Cell, retK_eq, cutK_eq, hx, hx', hw, h, eqFX_cons]
      obtain ⟨c, a⟩ := x
      obtain ⟨d, b⟩ := x'
      by_cases e : c = d <;> by_cases e2 : a = b <;> simp [e, e2]
theorem s_slices_Equal_impl_Cell_impl_Cell (a b : List CellT) (ha : a.length < 1000000000) : X_slices_Equal_impl_Cell_impl_Cell [frS eC a, frS eC b] [] = some (.bool (a == b), []) := by
  by_cases h : a.length = b.length
  · have h2 := l_slices_Equal_impl_Cell_impl_Cell a [] [] b QQ a.length rfl h rfl (by unfold QQ; omega) ha
    simp at h2
    simp +contextual -implicitDefEqProofs [X_slices_Equal_impl_Cell_impl_Cell, cutK_eq, retK_eq, h, h2]
    try (rw [← h]; exact h2)
  · have h2 : ¬ (a.length : Int) = b.length := by omega
    have h3 : a ≠ b := fun e => h (by rw [e])
    simp +contextual -implicitDefEqProofs [X_slices_Equal_impl_Cell_impl_Cell, cutK_eq, retK_eq, h2, h3]
theorem l_slices_Equal_byte_byte (r : List Int) : ∀ (p p' r' : List Int) (q n : Nat), p.length = p'.length → r.length = r'.length → n = (p ++ r).length → r.length < q → n < 1000000000 → L_slices_Equal_byte_byte 0 q 0 [frS eU8' (p ++ r), frS eU8' (p' ++ r'), .int .i64 n, .int .i64 p.length] [] = some (.bool (r == r'), []) := by
  induction r with
  | nil =>
    intro p p' r' q n hp hr hn hq hl
    obtain ⟨q, rfl⟩ : ∃ n, q = n + 1 := ⟨q - 1, by omega⟩
    obtain rfl : r' = [] := List.eq_nil_of_length_eq_zero (by simpa using hr.symm)
    subst hn
    simp +contextual -implicitDefEqProofs [L_slices_Equal_byte_byte, retK_eq]
  | cons x r ih =>
    intro p p' r' q n hp hr hn hq hl
    obtain ⟨q, rfl⟩ : ∃ n, q = n + 1 := ⟨q - 1, by omega⟩
    cases r' with
    | nil => simp at hr
    | cons x' r' =>
      have h := ih (p ++ [x]) (p' ++ [x']) r' q n (by simp [hp]) (by simpa using hr) (by simpa using hn) (by simp at hq; omega) hl
      simp at h
      have hn' : n = p.length + (r.length + 1) := by simpa using hn
      subst hn'
      try simp at h
      have hx := ixa_mid eU8' (sz := 1) rfl .i64 p x r
      have hx' := ixa_mid eU8' (sz := 1) rfl .i64 p' x' r'
      rw [← hp] at hx'
      have hw := wrap_next (n := p.length) (by omega)
      simp +contextual -implicitDefEqProofs [L_slices_Equal_byte_byte, retK_eq, cutK_eq, hx, hx', hw, h]
      by_cases e : x = x' <;> simp [e]
theorem s_slices_Equal_byte_byte (a b : List Int) (ha : a.length < 1000000000) : X_slices_Equal_byte_byte [frS eU8' a, frS eU8' b] [] = some (.bool (a == b), []) := by
  by_cases h : a.length = b.length
  · have h2 := l_slices_Equal_byte_byte a [] [] b QQ a.length rfl h rfl (by unfold QQ; omega) ha
    simp at h2
    simp +contextual -implicitDefEqProofs [X_slices_Equal_byte_byte, cutK_eq, retK_eq, h, h2]
    try (rw [← h]; exact h2)
  · have h2 : ¬ (a.length : Int) = b.length := by omega
    have h3 : a ≠ b := fun e => h (by rw [e])
    simp +contextual -implicitDefEqProofs [X_slices_Equal_byte_byte, cutK_eq, retK_eq, h2, h3]
end Go.Ab
