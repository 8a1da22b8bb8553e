/- What the functions of the program answer, for all arguments that the theorems name as conditions. -/
import Derived.Test.YtelkckbbelillaaS5G4a
import Derived.Test.YtelkckbbelillaaS5G2a
namespace Go.Ab
set_option linter.unusedSimpArgs false
set_option linter.unusedVariables false
set_option maxHeartbeats 4000000

/-! ## The laws' helpers over screens -/
theorem l_toBoolS (r : List Bool) : ∀ (p : List Bool) (q n : Nat), r.length < q → n = (p ++ r).length → n < 1000000000 → L_laws_toBoolS 0 q 0 [frS eB (p ++ r), .slice (some ⟨0, 0, none⟩) n n, .int .i64 p.length] [ownB eB (p ++ List.replicate r.length false)] = some (.slice (some ⟨0, 0, none⟩) n n, [ownB eB (p ++ r)]) := by
  induction r with
  | nil =>
    intro p q n hq hn hl
    obtain ⟨q, rfl⟩ : ∃ n, q = n + 1 := ⟨q - 1, by omega⟩
    simp -implicitDefEqProofs [L_laws_toBoolS, retK_eq]
  | cons x r ih =>
    intro p q n hq hn hl
    obtain ⟨q, rfl⟩ : ∃ n, q = n + 1 := ⟨q - 1, by omega⟩
    have h := ih (p ++ [x]) q n (by simp at hq; omega) (by simpa using hn) hl
    simp at h
    have hx := ixa_mid eB (sz := 1) rfl .i64 p x r
    have hw := wrap_next (n := p.length) (by simp at hn; omega)
    have hn' : n = p.length + (r.length + 1) := by simpa using hn
    subst hn'
    have hy := lay_mid eB p false (List.replicate r.length false) x
    simp at hy
    simp +contextual -implicitDefEqProofs [L_laws_toBoolS, retK_eq, cutK_eq, hx, hw, h, List.replicate_succ, hy]
@[simp] theorem shB_eB (N k : Nat) (l : List Bool) : shB N k (ownB eB l) = some (ownB eB l) := shB_own eB eB_hard N k l
@[simp] theorem shB_eI (q : IntKind) (N k : Nat) (l : List Int) : shB N k (ownB (eI q) l) = some (ownB (eI q) l) := shB_own (eI q) (eI_hard q) N k l
@[simp] theorem mk_eB (n : Nat) : (⟨List.replicate n (Value.bool false), 1, true, true⟩ : Blk) = ownB eB (List.replicate n false) := by
  have := flat_rep eB n false
  simp at this
  rw [this]; rfl
@[simp] theorem mk_eI (q : IntKind) (n : Nat) : (⟨List.replicate n (Value.int q 0), 1, true, true⟩ : Blk) = ownB (eI q) (List.replicate n 0) := by
  have := flat_rep (eI q) n 0
  simp at this
  rw [this]; rfl
theorem s_toBoolS (l : List Bool) (hl : l.length < 1000000000) : X_laws_toBoolS [frS eB l] [] = some (slO 0 l.length, [ownB eB l]) := by
  have h := l_toBoolS l [] QQ l.length (by unfold QQ; omega) rfl hl
  simp at h
  simp +contextual -implicitDefEqProofs [X_laws_toBoolS, cutK_eq, retK_eq, h, hl]
theorem l_toInt64S (r : List Int) : ∀ (p : List Int) (q n : Nat), r.length < q → n = (p ++ r).length → n < 1000000000 → L_laws_toInt64S 0 q 0 [frS eI6 (p ++ r), .slice (some ⟨0, 0, none⟩) n n, .int .i64 p.length] [ownB eI6 (p ++ List.replicate r.length 0)] = some (.slice (some ⟨0, 0, none⟩) n n, [ownB eI6 (p ++ r)]) := by
  induction r with
  | nil =>
    intro p q n hq hn hl
    obtain ⟨q, rfl⟩ : ∃ n, q = n + 1 := ⟨q - 1, by omega⟩
    simp -implicitDefEqProofs [L_laws_toInt64S, retK_eq]
  | cons x r ih =>
    intro p q n hq hn hl
    obtain ⟨q, rfl⟩ : ∃ n, q = n + 1 := ⟨q - 1, by omega⟩
    have h := ih (p ++ [x]) q n (by simp at hq; omega) (by simpa using hn) hl
    simp at h
    have hx := ixa_mid eI6 (sz := 1) rfl .i64 p x r
    have hw := wrap_next (n := p.length) (by simp at hn; omega)
    have hn' : n = p.length + (r.length + 1) := by simpa using hn
    subst hn'
    have hy := lay_mid eI6 p 0 (List.replicate r.length 0) x
    simp at hy
    simp +contextual -implicitDefEqProofs [L_laws_toInt64S, retK_eq, cutK_eq, hx, hw, h, List.replicate_succ, hy]
theorem s_toInt64S (l : List Int) (hl : l.length < 1000000000) : X_laws_toInt64S [frS eI6 l] [] = some (slO 0 l.length, [ownB eI6 l]) := by
  have h := l_toInt64S l [] QQ l.length (by unfold QQ; omega) rfl hl
  simp at h
  simp +contextual -implicitDefEqProofs [X_laws_toInt64S, cutK_eq, retK_eq, h, hl]
abbrev scrO (s : ScrT) (a b c d : Nat) : Value := .agg (scrL s (slO a s.g.cs.length) (slO b s.g.bk.length) (slO c s.tabs.length) (slO d s.sets.length)).toArray
theorem s_toScreen (s : ScrT) (hs : s.small) : X_laws_toScreen [scrV s] [] = some (scrO s 0 1 2 3, [ownB eC s.g.cs, ownB eC s.g.bk, ownB eB s.tabs, ownB eI6 s.sets]) := by
  have h1 := s_toGrid s.g hs.1
  have h2 := s_toBoolS s.tabs hs.2.1
  have h3 := s_toInt64S s.sets hs.2.2
  simp (maxSteps := 2000000) +contextual -implicitDefEqProofs [X_laws_toScreen, cutK_eq, retK_eq, h1, h2, h3]
theorem s_szBoolS (l : List Bool) (left : Int) (hl : l.length ≤ 9223372036854775807) (h0 : 0 ≤ left) (h1 : left ≤ 1048576) : X_laws_szBoolS [frS eB l, .int .i64 left] [] = some (.int .i64 (szN l.length left), []) := by
  have hw : IntKind.i64.wrap (left - l.length) = left - l.length := wrap_i64 (by omega) (by omega)
  simp +contextual -implicitDefEqProofs [X_laws_szBoolS, retK_eq, hw]
  unfold szN
  split <;> rfl
theorem s_szInt64S (l : List Int) (left : Int) (hl : l.length ≤ 9223372036854775807) (h0 : 0 ≤ left) (h1 : left ≤ 1048576) : X_laws_szInt64S [frS eI6 l, .int .i64 left] [] = some (.int .i64 (szN l.length left), []) := by
  have hw : IntKind.i64.wrap (left - l.length) = left - l.length := wrap_i64 (by omega) (by omega)
  simp +contextual -implicitDefEqProofs [X_laws_szInt64S, retK_eq, hw]
  unfold szN
  split <;> rfl
def ScrT.szl (s : ScrT) (left : Int) : Int := if s.g.szl left < 0 then -1 else if szN s.tabs.length (s.g.szl left) < 0 then -1 else if szN s.sets.length (szN s.tabs.length (s.g.szl left)) < 0 then -1 else szN s.sets.length (szN s.tabs.length (s.g.szl left))
def ScrT.fit (s : ScrT) : Prop := s.g.fit ∧ s.tabs.length ≤ 9223372036854775807 ∧ s.sets.length ≤ 9223372036854775807
theorem s_szScreen (s : ScrT) (left : Int) (hs : s.fit) (h0 : 0 ≤ left) (h1 : left ≤ 1048576) : X_laws_szScreen [scrV s, .int .i64 left] [] = some (.int .i64 (s.szl left), []) := by
  have c1 := s_szGrid s.g left hs.1.1 hs.1.2 h0 h1
  have b1 := szl_le (g := s.g) h1
  by_cases e1 : s.g.szl left < 0
  · simp +contextual -implicitDefEqProofs [X_laws_szScreen, retK_eq, c1, e1, ScrT.szl]
  · have c2 := s_szBoolS s.tabs (s.g.szl left) hs.2.1 (by omega) b1
    have b2 := szN_le (n := s.tabs.length) b1
    by_cases e2 : szN s.tabs.length (s.g.szl left) < 0
    · simp +contextual -implicitDefEqProofs [X_laws_szScreen, retK_eq, c1, c2, e1, e2, ScrT.szl]
    · have c3 := s_szInt64S s.sets _ hs.2.2 (by omega) b2
      by_cases e3 : szN s.sets.length (szN s.tabs.length (s.g.szl left)) < 0 <;> simp +contextual -implicitDefEqProofs [X_laws_szScreen, retK_eq, c1, c2, c3, e1, e2, e3, ScrT.szl]
theorem szs_small {s : ScrT} {x : Int} (hx : x ≤ 1048576) (h : ¬ s.szl x < 0) : s.small := by
  unfold ScrT.szl at h
  split at h
  · omega
  · rename_i h1
    split at h
    · omega
    · rename_i h2
      split at h
      · omega
      · rename_i h3
        exact ⟨szl_small hx h1, szN_small (x := s.g.szl x) (szl_le hx) (by omega), szN_small (x := szN s.tabs.length (s.g.szl x)) (szN_le (szl_le hx)) (by omega)⟩

theorem l_eqBoolS (r : List Bool) : ∀ (p : List Bool) (q : Nat), r.length < q → (p ++ r).length < 1000000000 → L_laws_eqBoolS 0 q 0 [frS eB (p ++ r), frS eB (p ++ r), .int .i64 p.length] [] = some (.bool true, []) := by
  induction r with
  | nil =>
    intro p q hq hl
    obtain ⟨q, rfl⟩ : ∃ n, q = n + 1 := ⟨q - 1, by omega⟩
    simp +contextual -implicitDefEqProofs [L_laws_eqBoolS, retK_eq]
  | cons x r ih =>
    intro p q hq hl
    obtain ⟨q, rfl⟩ : ∃ n, q = n + 1 := ⟨q - 1, by omega⟩
    have h := ih (p ++ [x]) q (by simp at hq; omega) (by simpa using hl)
    simp at h
    have hx := ixa_mid eB (sz := 1) rfl .i64 p x r
    have hw := wrap_next (n := p.length) (by simp at hl; omega)
    simp +contextual -implicitDefEqProofs [L_laws_eqBoolS, retK_eq, cutK_eq, hx, hw, h]
theorem s_eqBoolS (a : List Bool) (ha : a.length < 1000000000) : X_laws_eqBoolS [frS eB a, frS eB a] [] = some (.bool true, []) := by
  have h2 := l_eqBoolS a [] QQ (by unfold QQ; omega) (by simpa using ha)
  simp at h2
  simp +contextual -implicitDefEqProofs [X_laws_eqBoolS, cutK_eq, retK_eq, h2]
theorem l_eqInt64S (r : List Int) : ∀ (p : List Int) (q : Nat), r.length < q → (p ++ r).length < 1000000000 → L_laws_eqInt64S 0 q 0 [frS eI6 (p ++ r), frS eI6 (p ++ r), .int .i64 p.length] [] = some (.bool true, []) := by
  induction r with
  | nil =>
    intro p q hq hl
    obtain ⟨q, rfl⟩ : ∃ n, q = n + 1 := ⟨q - 1, by omega⟩
    simp +contextual -implicitDefEqProofs [L_laws_eqInt64S, retK_eq]
  | cons x r ih =>
    intro p q hq hl
    obtain ⟨q, rfl⟩ : ∃ n, q = n + 1 := ⟨q - 1, by omega⟩
    have h := ih (p ++ [x]) q (by simp at hq; omega) (by simpa using hl)
    simp at h
    have hx := ixa_mid eI6 (sz := 1) rfl .i64 p x r
    have hw := wrap_next (n := p.length) (by simp at hl; omega)
    simp +contextual -implicitDefEqProofs [L_laws_eqInt64S, retK_eq, cutK_eq, hx, hw, h]
theorem s_eqInt64S (a : List Int) (ha : a.length < 1000000000) : X_laws_eqInt64S [frS eI6 a, frS eI6 a] [] = some (.bool true, []) := by
  have h2 := l_eqInt64S a [] QQ (by unfold QQ; omega) (by simpa using ha)
  simp at h2
  simp +contextual -implicitDefEqProofs [X_laws_eqInt64S, cutK_eq, retK_eq, h2]
theorem s_eqGrid (a : GridT) (ha : a.small) : X_laws_eqGrid [gridV a, gridV a] [] = some (.bool true, []) := by
  have h1 := s_eqCellS a.cs a.cs ha.1 ha.1
  have h2 := s_eqCellS a.bk a.bk ha.2 ha.2
  simp at h1 h2
  simp +contextual -implicitDefEqProofs [X_laws_eqGrid, cutK_eq, retK_eq, h1, h2]
theorem s_eqScreen (s : ScrT) (hs : s.small) : X_laws_eqScreen [scrV s, scrV s] [] = some (.bool true, []) := by
  have h1 := s_eqGrid s.g hs.1
  have h2 := s_eqBoolS s.tabs hs.2.1
  have h3 := s_eqInt64S s.sets hs.2.2
  simp (maxSteps := 2000000) +contextual -implicitDefEqProofs [X_laws_eqScreen, cutK_eq, retK_eq, h1, h2, h3]
end Go.Ab
