/- What the functions of the program answer, for all arguments that the theorems name as conditions. -/
import Derived.Test.YtciokegejemdcaaDoorS15Ma
import Derived.Test.YtciokegejemdcaaDoorFD
set_option linter.unusedVariables false
set_option linter.unusedSimpArgs false
namespace Go.Ab
set_option maxHeartbeats 4000000
def markC (s : Int) : Nat → List CellT
  | 0 => []
  | n + 1 => ⟨s, s + 1⟩ :: markC (s + 1 + 1) n
@[simp] theorem markC_len (s : Int) (n : Nat) : (markC s n).length = n := by
  induction n generalizing s with
  | zero => rfl
  | succ n ih => simp [markC, ih]
def upC (s : Int) : Nat → Int
  | 0 => s
  | n + 1 => upC (s + 1 + 1) n
theorem upC_eq (s : Int) (n : Nat) : upC s n = s + 2 * n := by
  induction n generalizing s with
  | zero => simp [upC]
  | succ n ih => rw [upC, ih]; push_cast; omega
theorem wrap_one {t : Int} (h0 : 0 ≤ t) (h1 : t ≤ 1000000000000) : IntKind.i64.wrap (t + 1) = t + 1 ∧ IntKind.i64.wrap (t + 1 + 1) = t + 1 + 1 := ⟨wrap_i64 (by omega) (by omega), wrap_i64 (by omega) (by omega)⟩
theorem l_markCellS (r : List CellT) : ∀ (p : List CellT) (t : Int) (q n : Nat), r.length < q → n = (p ++ r).length → n < 1000000000 → 0 ≤ t → t + 2 * r.length ≤ 1000000000000 → L_laws_markCellS 1 q 0 [slO 0 n, .int .i64 t, .int .i64 p.length] [ownB eC (p ++ r)] = some (.int .i64 (upC t r.length), [ownB eC (p ++ markC t r.length)]) := by
  induction r with
  | nil =>
    intro p t q n hq hn hl h0 h1
    obtain ⟨q, rfl⟩ : ∃ n, q = n + 1 := ⟨q - 1, by omega⟩
    subst hn
    simp -implicitDefEqProofs [L_laws_markCellS, retK_eq, markC, upC]
  | cons x r ih =>
    intro p t q n hq hn hl h0 h1
    obtain ⟨q, rfl⟩ : ∃ n, q = n + 1 := ⟨q - 1, by omega⟩
    simp only [List.length_cons] at h1
    have h := ih (p ++ [⟨t, t + 1⟩]) (t + 1 + 1) q n (by simp at hq; omega) (by simpa using hn) hl (by omega) (by push_cast at h1; omega)
    simp at h
    have hw := wrap_next (n := p.length) (by simp at hn; omega)
    have hw2 := wrap_one h0 (by omega)
    have hn' : n = p.length + (r.length + 1) := by simpa using hn
    subst hn'
    simp +contextual -implicitDefEqProofs [L_laws_markCellS, retK_eq, cutK_eq, hw, hw2.1, hw2.2, h, markC, upC]
    omega
theorem s_markCellS (l : List CellT) (t : Int) (hl : l.length < 1000000000) (h0 : 0 ≤ t) (h1 : t ≤ 100000000000) : X_laws_markCellS [slO 0 l.length, .int .i64 t] [ownB eC l] = some (.int .i64 (upC t l.length), [ownB eC (markC t l.length)]) := by
  have h := l_markCellS l [] t QQ l.length (by unfold QQ; omega) rfl hl h0 (by omega)
  simp at h
  simp +contextual -implicitDefEqProofs [X_laws_markCellS, retK_eq, cutK_eq, h]
def upG (g : GridT) (t : Int) : Int := upC (upC t g.cs.length) g.bk.length
def markG (g : GridT) (t : Int) : GridT := ⟨g.r, g.w, markC t g.cs.length, markC (upC t g.cs.length) g.bk.length⟩
end Go.Ab
namespace Go.Ab
set_option maxHeartbeats 4000000
abbrev slQ (b o n c : Nat) : Value := .slice (some ⟨b, o, none⟩) n c
theorem layP1 (pre p zs : List CellT) (z : CellT) (a : Int) : lay (cellsE eC (pre ++ (p ++ z :: zs))) (pre.length * 2 + p.length * 2) [.int .i64 a] = cellsE eC (pre ++ (p ++ ⟨a, z.a⟩ :: zs)) := by
  have h := lay_eC1 (pre ++ p) zs z a
  rw [List.length_append, Nat.add_mul, List.append_assoc, List.append_assoc] at h
  exact h
theorem layP2 (pre p zs : List CellT) (z : CellT) (a : Int) : lay (cellsE eC (pre ++ (p ++ z :: zs))) (pre.length * 2 + p.length * 2 + 1) [.int .i64 a] = cellsE eC (pre ++ (p ++ ⟨z.c, a⟩ :: zs)) := by
  have h := lay_eC2 (pre ++ p) zs z a
  rw [List.length_append, Nat.add_mul, List.append_assoc, List.append_assoc] at h
  exact h
theorem l_markCellP (pre post : List CellT) (c : Nat) (r : List CellT) : ∀ (p : List CellT) (t : Int) (q n : Nat), r.length < q → n = (p ++ r).length → n < 1000000000 → 0 ≤ t → t + 2 * r.length ≤ 1000000000000 → L_laws_markCellS 1 q 0 [.slice (some ⟨0, pre.length * 2, none⟩) n c, .int .i64 t, .int .i64 p.length] [ownB eC (pre ++ (p ++ (r ++ post)))] = some (.int .i64 (upC t r.length), [ownB eC (pre ++ (p ++ (markC t r.length ++ post)))]) := by
  induction r with
  | nil =>
    intro p t q n hq hn hl h0 h1
    obtain ⟨q, rfl⟩ : ∃ n, q = n + 1 := ⟨q - 1, by omega⟩
    subst hn
    simp -implicitDefEqProofs [L_laws_markCellS, retK_eq, markC, upC]
  | cons x r ih =>
    intro p t q n hq hn hl h0 h1
    obtain ⟨q, rfl⟩ : ∃ n, q = n + 1 := ⟨q - 1, by omega⟩
    simp only [List.length_cons] at h1
    have h := ih (p ++ [⟨t, t + 1⟩]) (t + 1 + 1) q n (by simp at hq; omega) (by simpa using hn) hl (by omega) (by push_cast at h1; omega)
    simp at h
    have hw := wrap_next (n := p.length) (by simp at hn; omega)
    have hw2 := wrap_one h0 (by omega)
    have hn' : n = p.length + (r.length + 1) := by simpa using hn
    have y1 := layP1 pre p (r ++ post) x t
    have y2 := layP2 pre p (r ++ post) ⟨t, x.a⟩ (t + 1)
    subst hn'
    simp +contextual -implicitDefEqProofs [L_laws_markCellS, retK_eq, cutK_eq, hw, hw2.1, hw2.2, h, markC, upC, y1, y2]
    omega
theorem s_markCellP (pre post l : List CellT) (c : Nat) (t : Int) (hl : l.length < 1000000000) (h0 : 0 ≤ t) (h1 : t ≤ 100000000000) : X_laws_markCellS [.slice (some ⟨0, pre.length * 2, none⟩) l.length c, .int .i64 t] [ownB eC (pre ++ (l ++ post))] = some (.int .i64 (upC t l.length), [ownB eC (pre ++ (markC t l.length ++ post))]) := by
  have h := l_markCellP pre post c l [] t QQ l.length (by unfold QQ; omega) rfl hl h0 (by omega)
  simp at h
  simp +contextual -implicitDefEqProofs [X_laws_markCellS, retK_eq, cutK_eq, h]
def markI (t : Int) : Nat → List Int
  | 0 => []
  | n + 1 => t :: markI (t + 1) n
@[simp] theorem markI_len (t : Int) (n : Nat) : (markI t n).length = n := by
  induction n generalizing t with
  | zero => rfl
  | succ n ih => simp [markI, ih]
theorem l_markInt64S (r : List Int) : ∀ (p : List Int) (t : Int) (q n : Nat), r.length < q → n = (p ++ r).length → n < 1000000000 → 0 ≤ t → t + r.length ≤ 1000000000000 → L_laws_markInt64S 1 q 0 [slO 0 n, .int .i64 t, .int .i64 p.length] [ownB eI6 (p ++ r)] = some (.int .i64 (t + r.length), [ownB eI6 (p ++ markI t r.length)]) := by
  induction r with
  | nil =>
    intro p t q n hq hn hl h0 h1
    obtain ⟨q, rfl⟩ : ∃ n, q = n + 1 := ⟨q - 1, by omega⟩
    subst hn
    simp -implicitDefEqProofs [L_laws_markInt64S, retK_eq, markI]
  | cons x r ih =>
    intro p t q n hq hn hl h0 h1
    obtain ⟨q, rfl⟩ : ∃ n, q = n + 1 := ⟨q - 1, by omega⟩
    simp only [List.length_cons] at h1
    have h := ih (p ++ [t]) (t + 1) q n (by simp at hq; omega) (by simpa using hn) hl (by omega) (by push_cast at h1; omega)
    simp at h
    have hw := wrap_next (n := p.length) (by simp at hn; omega)
    have hw2 := wrap_one h0 (by omega)
    have hn' : n = p.length + (r.length + 1) := by simpa using hn
    subst hn'
    have hy := lay_mid eI6 p x r t
    simp at hy
    have e : t + ((r.length : Int) + 1) = t + 1 + r.length := by omega
    simp +contextual -implicitDefEqProofs [L_laws_markInt64S, retK_eq, cutK_eq, hw, hw2.1, hy, h, markI, e]
theorem s_markInt64S (l : List Int) (t : Int) (hl : l.length < 1000000000) (h0 : 0 ≤ t) (h1 : t ≤ 100000000000) : X_laws_markInt64S [slO 0 l.length, .int .i64 t] [ownB eI6 l] = some (.int .i64 (t + l.length), [ownB eI6 (markI t l.length)]) := by
  have h := l_markInt64S l [] t QQ l.length (by unfold QQ; omega) rfl hl h0 (by omega)
  simp at h
  simp +contextual -implicitDefEqProofs [X_laws_markInt64S, retK_eq, cutK_eq, h]
def thB (t : Int) : Bool := t.tmod 3 == 0
def markBo (t : Int) : Nat → List Bool
  | 0 => []
  | n + 1 => thB t :: markBo (t + 1) n
@[simp] theorem markBo_len (t : Int) (n : Nat) : (markBo t n).length = n := by
  induction n generalizing t with
  | zero => rfl
  | succ n ih => simp [markBo, ih]
theorem l_markBoolS (post : List Bool) (c : Nat) (r : List Bool) : ∀ (p : List Bool) (t : Int) (q n : Nat), r.length < q → n = (p ++ r).length → n < 1000000000 → 0 ≤ t → t + r.length ≤ 1000000000000 → L_laws_markBoolS 1 q 0 [slQ 0 0 n c, .int .i64 t, .int .i64 p.length] [ownB eB (p ++ (r ++ post))] = some (.int .i64 (t + r.length), [ownB eB (p ++ (markBo t r.length ++ post))]) := by
  induction r with
  | nil =>
    intro p t q n hq hn hl h0 h1
    obtain ⟨q, rfl⟩ : ∃ n, q = n + 1 := ⟨q - 1, by omega⟩
    subst hn
    simp -implicitDefEqProofs [L_laws_markBoolS, retK_eq, markBo]
  | cons x r ih =>
    intro p t q n hq hn hl h0 h1
    obtain ⟨q, rfl⟩ : ∃ n, q = n + 1 := ⟨q - 1, by omega⟩
    simp only [List.length_cons] at h1
    have h := ih (p ++ [thB t]) (t + 1) q n (by simp at hq; omega) (by simpa using hn) hl (by omega) (by push_cast at h1; omega)
    simp at h
    have hw := wrap_next (n := p.length) (by simp at hn; omega)
    have hw2 := wrap_one h0 (by omega)
    have hn' : n = p.length + (r.length + 1) := by simpa using hn
    subst hn'
    have hy := lay_mid eB p x (r ++ post) (thB t)
    simp at hy
    have e : t + ((r.length : Int) + 1) = t + 1 + r.length := by omega
    unfold thB at h hy
    simp +contextual -implicitDefEqProofs [L_laws_markBoolS, retK_eq, cutK_eq, hw, hw2.1, hy, h, markBo, e, thB]
theorem s_markBoolS (l post : List Bool) (c : Nat) (t : Int) (hl : l.length < 1000000000) (h0 : 0 ≤ t) (h1 : t ≤ 100000000000) : X_laws_markBoolS [slQ 0 0 l.length c, .int .i64 t] [ownB eB (l ++ post)] = some (.int .i64 (t + l.length), [ownB eB (markBo t l.length ++ post)]) := by
  have h := l_markBoolS post c l [] t QQ l.length (by unfold QQ; omega) rfl hl h0 (by omega)
  simp at h
  simp +contextual -implicitDefEqProofs [X_laws_markBoolS, retK_eq, cutK_eq, h]
end Go.Ab
namespace Go.Ab
set_option maxHeartbeats 4000000
theorem hd_4 (C B : List CellT) (T : List Bool) (SS : List Int) : HdM [ownB eC C, ownB eC B, ownB eB T, ownB eI6 SS] := fun N => ⟨[ownB eC C, ownB eC B, ownB eB T, ownB eI6 SS], by
  simp only [mapB, shB_own eC eC_hard, shB_own eB eB_hard, shB_own eI6 (eI_hard .i64)]
  rfl⟩
abbrev scW (S : ScrT) (k nC cC nB nT cT nS : Nat) : Value := .agg (scrL S (slQ k 0 nC cC) (slO (k + 1) nB) (slQ (k + 2) 0 nT cT) (slO (k + 3) nS)).toArray
theorem can_sc (S : ScrT) (nC cC nB nT cT nS : Nat) (C B : List CellT) (T : List Bool) (SS : List Int) : Can (scW S 0 nC cC nB nT cT nS) [ownB eC C, ownB eC B, ownB eB T, ownB eI6 SS] := ⟨by simp, by simp, by simp⟩
theorem rn_sc (S : ScrT) (nC cC nB nT cT nS N : Nat) : rnV 8 hard (sft N 4) (scW S 0 nC cC nB nT cT nS) = some (scW S N nC cC nB nT cT nS) := by simp
def upS (S : ScrT) (t : Int) : Int := upG S.g t + S.tabs.length + S.sets.length
def markS (S : ScrT) (t : Int) : ScrT := { S with g := markG S.g t, tabs := markBo (upG S.g t) S.tabs.length, sets := markI (upG S.g t + S.tabs.length) S.sets.length }
theorem upG_eq (g : GridT) (t : Int) : upG g t = t + 2 * g.cs.length + 2 * g.bk.length := by
  unfold upG
  rw [upC_eq, upC_eq]
theorem s_markGridQ (g : GridT) (post : List CellT) (c : Nat) (t : Int) (hg : g.small) (h0 : 0 ≤ t) (h1 : t ≤ 10000000000) : X_laws_markGrid [.agg #[.int .i64 g.r, .int .i64 g.w, slQ 0 0 g.cs.length c, slO 1 g.bk.length], .int .i64 t] [ownB eC (g.cs ++ post), ownB eC g.bk] = some (.int .i64 (upG g t), [ownB eC ((markG g t).cs ++ post), ownB eC (markG g t).bk]) := by
  obtain ⟨g1, g2⟩ := hg
  have c1 := s_markCellP [] post g.cs c t g1 h0 (by omega)
  have c2 := s_markCellS g.bk (upC t g.cs.length) g2 (by rw [upC_eq]; omega) (by rw [upC_eq]; omega)
  simp at c1 c2
  simp +contextual -implicitDefEqProofs [X_laws_markGrid, retK_eq, cutK_eq, c1, c2, upG, markG]
theorem s_markScreenQ (S : ScrT) (p1 : List CellT) (p2 : List Bool) (cC cT : Nat) (t : Int) (hs : S.small) (h0 : 0 ≤ t) (h1 : t ≤ 10000000000) : X_laws_markScreen [scW S 0 S.g.cs.length cC S.g.bk.length S.tabs.length cT S.sets.length, .int .i64 t] [ownB eC (S.g.cs ++ p1), ownB eC S.g.bk, ownB eB (S.tabs ++ p2), ownB eI6 S.sets] = some (.int .i64 (upS S t), [ownB eC ((markS S t).g.cs ++ p1), ownB eC (markS S t).g.bk, ownB eB ((markS S t).tabs ++ p2), ownB eI6 (markS S t).sets]) := by
  obtain ⟨hg, ht, hss⟩ := hs
  have c1 := s_markGridQ S.g p1 cC t hg h0 h1
  have b := upG_eq S.g t
  obtain ⟨g1, g2⟩ := hg
  have c2 := s_markBoolS S.tabs p2 cT (upG S.g t) ht (by omega) (by omega)
  have c3 := s_markInt64S S.sets (upG S.g t + S.tabs.length) hss (by omega) (by omega)
  simp (maxSteps := 400000) -implicitDefEqProofs [X_laws_markScreen, retK_eq, cutK_eq, c1, c2, c3, upS, markS]
end Go.Ab
namespace Go.Ab
set_option maxHeartbeats 4000000
theorem fz_scrV (s : ScrT) (m : Mem) : fz 64 m (scrV s) = some (scrV s) := by simp
theorem n_toScreen (s : ScrT) (hs : s.small) (m : Mem) : ∃ k m', k = m.length ∧ fcall X_laws_toScreen [scrV s] m = some (scW s k s.g.cs.length s.g.cs.length s.g.bk.length s.tabs.length s.tabs.length s.sets.length, m') ∧ m'.length = m.length + [ownB eC s.g.cs, ownB eC s.g.bk, ownB eB s.tabs, ownB eI6 s.sets].length ∧ (∀ n, n < m.length → m'[n]? = m[n]?) ∧ Has m' (scW s k s.g.cs.length s.g.cs.length s.g.bk.length s.tabs.length s.tabs.length s.sets.length) (List.range' k [ownB eC s.g.cs, ownB eC s.g.bk, ownB eB s.tabs, ownB eI6 s.sets].length) (scW s 0 s.g.cs.length s.g.cs.length s.g.bk.length s.tabs.length s.tabs.length s.sets.length) [ownB eC s.g.cs, ownB eC s.g.bk, ownB eB s.tabs, ownB eI6 s.sets] :=
  Has.new (X := X_laws_toScreen) (fr := [scrV s]) (F := fun k => scW s k s.g.cs.length s.g.cs.length s.g.bk.length s.tabs.length s.tabs.length s.sets.length) (mapO1 (fz_scrV s m)) (s_toScreen s hs) (can_sc s _ _ _ _ _ _ _ _ _ _) (hd_4 _ _ _ _) (fun N => rn_sc s _ _ _ _ _ _ N)
theorem fz_scO (s : ScrT) : fz 64 [ownB eC s.g.cs, ownB eC s.g.bk, ownB eB s.tabs, ownB eI6 s.sets] (scW s 0 s.g.cs.length s.g.cs.length s.g.bk.length s.tabs.length s.tabs.length s.sets.length) = some (scrV s) := by
  simp
theorem s_markScreenO (s : ScrT) (hs : s.small) : X_laws_markScreen [scW s 0 s.g.cs.length s.g.cs.length s.g.bk.length s.tabs.length s.tabs.length s.sets.length, .int .i64 1] [ownB eC s.g.cs, ownB eC s.g.bk, ownB eB s.tabs, ownB eI6 s.sets] = some (.int .i64 (upS s 1), [ownB eC (markS s 1).g.cs, ownB eC (markS s 1).g.bk, ownB eB (markS s 1).tabs, ownB eI6 (markS s 1).sets]) := by
  have h := s_markScreenQ s [] [] s.g.cs.length s.tabs.length 1 hs (by omega) (by omega)
  simp only [List.append_nil] at h
  exact h
theorem can_mS (s : ScrT) : Can (scW s 0 s.g.cs.length s.g.cs.length s.g.bk.length s.tabs.length s.tabs.length s.sets.length) [ownB eC (markS s 1).g.cs, ownB eC (markS s 1).g.bk, ownB eB (markS s 1).tabs, ownB eI6 (markS s 1).sets] := can_sc s _ _ _ _ _ _ _ _ _ _
end Go.Ab
namespace Go.Ab
set_option maxHeartbeats 4000000
abbrev eU8 : Enc Int := eI .u8
def encB (x : Int) : List Int := if x < 128 then [x] else if x < 2048 then [192 + x / 64, 128 + x % 64] else [224 + x / 4096, 128 + x / 64 % 64, 128 + x % 64]
theorem encB_len (x : Int) : (encB x).length ≤ 3 := by unfold encB; split; simp; split <;> simp
theorem s_spec_l1Encode (x : Int) (h0 : 0 ≤ x) (h1 : x ≤ 65535) : X_spec_l1Encode [.int .i64 x] [] = some (slO 0 (encB x).length, [ownB eU8 (encB x)]) := by
  have e1 : x.tdiv 64 = x / 64 := Int.tdiv_eq_ediv_of_nonneg h0
  have e2 : x.tdiv 4096 = x / 4096 := Int.tdiv_eq_ediv_of_nonneg h0
  have e3 : x.tmod 64 = x % 64 := Int.tmod_eq_emod_of_nonneg h0
  have e4 : (x / 64).tmod 64 = x / 64 % 64 := Int.tmod_eq_emod_of_nonneg (by omega)
  have w1 : IntKind.i64.wrap (x / 64) = x / 64 := wrap_i64 (by omega) (by omega)
  have w2 : IntKind.i64.wrap (x / 4096) = x / 4096 := wrap_i64 (by omega) (by omega)
  have w3 : IntKind.i64.wrap (192 + x / 64) = 192 + x / 64 := wrap_i64 (by omega) (by omega)
  have w4 : IntKind.i64.wrap (128 + x % 64) = 128 + x % 64 := wrap_i64 (by omega) (by omega)
  have w5 : IntKind.i64.wrap (224 + x / 4096) = 224 + x / 4096 := wrap_i64 (by omega) (by omega)
  have w6 : IntKind.i64.wrap (128 + x / 64 % 64) = 128 + x / 64 % 64 := wrap_i64 (by omega) (by omega)
  have u4 : IntKind.u8.wrap (128 + x % 64) = 128 + x % 64 := wrap_u8' (by omega) (by omega)
  have u6 : IntKind.u8.wrap (128 + x / 64 % 64) = 128 + x / 64 % 64 := wrap_u8' (by omega) (by omega)
  by_cases c1 : x < 128
  · have u1 : IntKind.u8.wrap x = x := wrap_u8' (by omega) (by omega)
    simp -implicitDefEqProofs [X_spec_l1Encode, retK_eq, encB, c1, u1]
    rfl
  · by_cases c2 : x < 2048
    · have u2 : IntKind.u8.wrap (192 + x / 64) = 192 + x / 64 := wrap_u8' (by omega) (by omega)
      simp -implicitDefEqProofs [X_spec_l1Encode, retK_eq, encB, c1, c2, e1, e3, w1, w3, w4, u2, u4]
      rfl
    · have u3 : IntKind.u8.wrap (224 + x / 4096) = 224 + x / 4096 := wrap_u8' (by omega) (by omega)
      simp -implicitDefEqProofs [X_spec_l1Encode, retK_eq, encB, c1, c2, e1, e2, e3, e4, w1, w2, w4, w5, w6, u3, u4, u6]
      rfl
theorem s_impl_encode (x : Int) (h0 : 0 ≤ x) (h1 : x ≤ 65535) : X_impl_encode [.int .i64 x] [] = some (slO 0 (encB x).length, [ownB eU8 (encB x)]) := by
  have e1 := shr_div (a := x) 6 (by omega)
  have e2 := shr_div (a := x) 12 (by omega)
  have e3 := and_mask (a := x) 6 h0 (by omega) (by omega)
  have e4 := and_mask (a := x / 64) 6 (by omega) (by omega) (by omega)
  simp only [Nat.reducePow, Nat.reduceSub, Int.cast_ofNat_Int] at e1 e2 e3 e4
  have w3 : IntKind.i64.wrap (192 + x / 64) = 192 + x / 64 := wrap_i64 (by omega) (by omega)
  have w4 : IntKind.i64.wrap (128 + x % 64) = 128 + x % 64 := wrap_i64 (by omega) (by omega)
  have w5 : IntKind.i64.wrap (224 + x / 4096) = 224 + x / 4096 := wrap_i64 (by omega) (by omega)
  have w6 : IntKind.i64.wrap (128 + x / 64 % 64) = 128 + x / 64 % 64 := wrap_i64 (by omega) (by omega)
  have u4 : IntKind.u8.wrap (128 + x % 64) = 128 + x % 64 := wrap_u8' (by omega) (by omega)
  have u6 : IntKind.u8.wrap (128 + x / 64 % 64) = 128 + x / 64 % 64 := wrap_u8' (by omega) (by omega)
  by_cases c1 : x < 128
  · have u1 : IntKind.u8.wrap x = x := wrap_u8' (by omega) (by omega)
    simp -implicitDefEqProofs [X_impl_encode, retK_eq, encB, c1, u1]
    rfl
  · by_cases c2 : x < 2048
    · have u2 : IntKind.u8.wrap (192 + x / 64) = 192 + x / 64 := wrap_u8' (by omega) (by omega)
      simp -implicitDefEqProofs [X_impl_encode, retK_eq, encB, c1, c2, e1, e3, w3, w4, u2, u4]
      rfl
    · have u3 : IntKind.u8.wrap (224 + x / 4096) = 224 + x / 4096 := wrap_u8' (by omega) (by omega)
      simp -implicitDefEqProofs [X_impl_encode, retK_eq, encB, c1, c2, e1, e2, e3, e4, w4, w5, w6, u3, u4, u6]
      rfl
def rowL (g : GridT) (i : Int) : List CellT := (g.cs.drop (i * g.w).toNat).take (((i + 1) * g.w).toNat - (i * g.w).toNat)
theorem row_facts {g : GridT} {i : Int} (hf : faultG g = 0) (h0 : 0 ≤ i) (h1 : i ≤ g.r - 1) : IntKind.i64.wrap (i * g.w) = i * g.w ∧ IntKind.i64.wrap (i + 1) = i + 1 ∧ IntKind.i64.wrap ((i + 1) * g.w) = (i + 1) * g.w ∧ 0 ≤ i * g.w ∧ i * g.w ≤ (i + 1) * g.w ∧ (i + 1) * g.w ≤ g.cs.length ∧ g.cs.length ≤ 72 ∧ (rowL g i).length ≤ 72 ∧ ∀ x ∈ rowL g i, 0 ≤ x.c ∧ x.c ≤ 65535 := by
  have hs := szB_of hf
  have hb := szB_b hs
  have hl : (g.cs.length : Int) = g.r * g.w ∧ allC g.cs = true := by
    unfold faultG at hf
    rw [if_pos hs] at hf
    split at hf
    · rename_i hh
      split at hf
      · rename_i h3
        unfold formG at hh
        simp at hh h3
        exact ⟨hh.1, h3.1⟩
      · cases hf
    · cases hf
  have m1 := mul_le (r := i) (w := g.w) (a := 6) (b := 12) h0 (by omega) (by omega) (by omega)
  have m2 := mul_le (r := i + 1) (w := g.w) (a := 6) (b := 12) (by omega) (by omega) (by omega) (by omega)
  have m3 : i * g.w ≤ (i + 1) * g.w := Int.mul_le_mul_of_nonneg_right (by omega) (by omega)
  have m4 : (i + 1) * g.w ≤ g.r * g.w := Int.mul_le_mul_of_nonneg_right (by omega) (by omega)
  have m5 := mul_le (r := g.r) (w := g.w) (a := 6) (b := 12) (by omega) (by omega) (by omega) (by omega)
  refine ⟨wrap_i64 (by omega) (by omega), wrap_i64 (by omega) (by omega), wrap_i64 (by omega) (by omega), m1.1, m3, by omega, by omega, ?_, ?_⟩
  · unfold rowL
    rw [List.length_take, List.length_drop]
    omega
  · intro x hx
    have hx' : x ∈ g.cs := List.mem_of_mem_drop (List.mem_of_mem_take hx)
    have := List.all_eq_true.mp hl.2 x hx'
    simp [okC, shB', chB, inB] at this
    omega
theorem sl_row {g : GridT} {i : Int} (hf : faultG g = 0) (h0 : 0 ≤ i) (h1 : i ≤ g.r - 1) (m : Mem) : slX m 2 (frS eC g.cs) (some (.int .i64 (i * g.w))) (some (.int .i64 ((i + 1) * g.w))) = some (frS eC (rowL g i)) := by
  obtain ⟨_, _, _, f1, f2, f3, _⟩ := row_facts hf h0 h1
  exact sl_frS eC m (sz := 2) rfl (a := (i * g.w).toNat) (b := ((i + 1) * g.w).toNat) (if_pos f1) (if_pos (by omega)) (by omega) (by omega)
theorem s_spec_l3RowOf {g : GridT} {i : Int} (hf : faultG g = 0) (h0 : 0 ≤ i) (h1 : i ≤ g.r - 1) (rest : List Value) : X_spec_l3RowOf [gridP g rest, .int .i64 i] [] = some (slO 0 (rowL g i).length, [ownB eC (rowL g i)]) := by
  obtain ⟨w1, w2, w3, f1, f2, f3, f4, f5, _⟩ := row_facts hf h0 h1
  have hs := sl_row hf h0 h1
  have hl : (rowL g i).length < 1000000000 := by omega
  have ha := fun m c => apL_frS (E := eC) (m := m) (sz := 2) (bytes := 16) (n := 0) (o := 0) (len := 0) (c := c) (l := rowL g i) rfl (by omega) (by omega)
  simp +contextual -implicitDefEqProofs [X_spec_l3RowOf, retK_eq, w1, w2, w3, hs, hl, ha]
@[simp] theorem cell_c (p r : List CellT) (x : CellT) : (cellsE eC (p ++ x :: r))[p.length * 2]? = some (.int .i64 x.c) := by
  have := cell_at eC (l := p ++ x :: r) (i := p.length) (o := 0) (by simp) (by decide)
  rw [gt_mid] at this
  exact this
@[simp] theorem cell_a (p r : List CellT) (x : CellT) : (cellsE eC (p ++ x :: r))[p.length * 2 + 1]? = some (.int .i64 x.a) := by
  have := cell_at eC (l := p ++ x :: r) (i := p.length) (o := 1) (by simp) (by decide)
  rw [gt_mid] at this
  exact this
@[simp] theorem cell_c' (p r : List CellT) (x : CellT) (h : p.length * 2 < (cellsE eC (p ++ x :: r)).length) : (cellsE eC (p ++ x :: r))[p.length * 2]'h = .int .i64 x.c := by
  have := cell_c p r x
  rw [List.getElem?_eq_getElem h] at this
  exact Option.some.inj this
@[simp] theorem cell_a' (p r : List CellT) (x : CellT) (h : p.length * 2 + 1 < (cellsE eC (p ++ x :: r)).length) : (cellsE eC (p ++ x :: r))[p.length * 2 + 1]'h = .int .i64 x.a := by
  have := cell_a p r x
  rw [List.getElem?_eq_getElem h] at this
  exact Option.some.inj this
end Go.Ab
namespace Go.Ab
set_option maxHeartbeats 4000000
@[simp] theorem rn_hard_ro0 (k : Nat) (π : Nat → Option Nat) : rnV (k + 1) hard π (roS 0 []) = some (roS 0 []) := rnV_p rfl
@[simp] theorem hard_ro0 : hard (roS 0 []) = true := (rfl)
abbrev ptr (n : Nat) : Value := .pointer (some ⟨n, 0, none⟩)
abbrev blk (l : List Value) : Blk := ⟨l, 0, true, true⟩
end Go.Ab
namespace Go.Ab
set_option maxHeartbeats 8000000
set_option maxRecDepth 100000
theorem dg1 : X_impl_digits [.int .i64 1] [] = some (.string ⟨#[49]⟩, []) := by rfl
theorem dg2 : X_impl_digits [.int .i64 2] [] = some (.string ⟨#[50]⟩, []) := by rfl
theorem dg3 : X_impl_digits [.int .i64 3] [] = some (.string ⟨#[51]⟩, []) := by rfl
theorem dg4 : X_impl_digits [.int .i64 4] [] = some (.string ⟨#[52]⟩, []) := by rfl
theorem dg5 : X_impl_digits [.int .i64 5] [] = some (.string ⟨#[53]⟩, []) := by rfl
theorem dg6 : X_impl_digits [.int .i64 6] [] = some (.string ⟨#[54]⟩, []) := by rfl
theorem dg30 : X_impl_digits [.int .i64 30] [] = some (.string ⟨#[51, 48]⟩, []) := by rfl
theorem dg31 : X_impl_digits [.int .i64 31] [] = some (.string ⟨#[51, 49]⟩, []) := by rfl
theorem dg32 : X_impl_digits [.int .i64 32] [] = some (.string ⟨#[51, 50]⟩, []) := by rfl
theorem dg33 : X_impl_digits [.int .i64 33] [] = some (.string ⟨#[51, 51]⟩, []) := by rfl
theorem dg34 : X_impl_digits [.int .i64 34] [] = some (.string ⟨#[51, 52]⟩, []) := by rfl
theorem dg35 : X_impl_digits [.int .i64 35] [] = some (.string ⟨#[51, 53]⟩, []) := by rfl
theorem dg36 : X_impl_digits [.int .i64 36] [] = some (.string ⟨#[51, 54]⟩, []) := by rfl
theorem dg37 : X_impl_digits [.int .i64 37] [] = some (.string ⟨#[51, 55]⟩, []) := by rfl
theorem ds_one (q : Nat) (n : Int) (h0 : 0 ≤ n) (h1 : n < 10) : R_spec_l1Digits (q + 1) [.int .i64 n] [] = some (.string (bstr [48 + n]), []) := by
  have w1 : IntKind.i64.wrap (48 + n) = 48 + n := wrap_i64 (by omega) (by omega)
  have w2 : IntKind.u8.wrap (48 + n) = 48 + n := wrap_u8' (by omega) (by omega)
  have k : (⟨[.int .u8 (48 + n)], 1, true, true⟩ : Blk) = ownB (eI .u8) [48 + n] := rfl
  have k2 : cvB (some (ownB (eI .u8) [48 + n])) 0 1 = some (.string (bstr [48 + n])) := cvB_own [48 + n] 1 rfl
  simp -implicitDefEqProofs [R_spec_l1Digits, retK_eq, w1, w2, h1, k, k2]
theorem ds_two (n : Int) (h0 : 10 ≤ n) (h1 : n < 100) : X_spec_l1Digits [.int .i64 n] [] = some (.string (bstr [48 + n / 10] ++ bstr [48 + n % 10]), []) := by
  obtain ⟨q, hq⟩ : ∃ q, QQ = q + 1 + 1 := ⟨QQ - 2, by unfold QQ; omega⟩
  have e1 : n.tdiv 10 = n / 10 := Int.tdiv_eq_ediv_of_nonneg (by omega)
  have e2 : n.tmod 10 = n % 10 := Int.tmod_eq_emod_of_nonneg (by omega)
  have c1 := ds_one q (n / 10) (by omega) (by omega)
  have hn : ¬ n < 10 := by omega
  have w0 : IntKind.i64.wrap (n / 10) = n / 10 := wrap_i64 (by omega) (by omega)
  have w3 : IntKind.i64.wrap (n % 10) = n % 10 := wrap_i64 (by omega) (by omega)
  have w1 : IntKind.i64.wrap (48 + n % 10) = 48 + n % 10 := wrap_i64 (by omega) (by omega)
  have w2 : IntKind.u8.wrap (48 + n % 10) = 48 + n % 10 := wrap_u8' (by omega) (by omega)
  have k : (⟨[.int .u8 (48 + n % 10)], 1, true, true⟩ : Blk) = ownB (eI .u8) [48 + n % 10] := rfl
  have k2 : cvB (some (ownB (eI .u8) [48 + n % 10])) 0 1 = some (.string (bstr [48 + n % 10])) := cvB_own [48 + n % 10] 1 rfl
  have z1 : (bstr [48 + n / 10]).size = 1 := rfl
  have z2 : (bstr [48 + n % 10]).size = 1 := rfl
  rw [X_spec_l1Digits, hq]
  rw [R_spec_l1Digits]
  simp -implicitDefEqProofs [retK_eq, hn, e1, e2, c1, w0, w1, w2, w3, k, k2, z1, z2]
theorem ds_one' (n : Int) (h0 : 0 ≤ n) (h1 : n < 10) : X_spec_l1Digits [.int .i64 n] [] = some (.string (bstr [48 + n]), []) := by
  obtain ⟨q, hq⟩ : ∃ q, QQ = q + 1 := ⟨QQ - 1, by unfold QQ; omega⟩
  rw [X_spec_l1Digits, hq]
  exact ds_one q n h0 h1
end Go.Ab
namespace Go.Ab
set_option maxHeartbeats 8000000
set_option maxRecDepth 100000
abbrev eB8 : Enc Int := eI .u8
theorem bstr_len (l : List Int) : (bstr l).size = l.length := by simp [bstr, ByteArray.size]
theorem bstr_app (a b : List Int) : bstr a ++ bstr b = bstr (a ++ b) := by
  apply ByteArray.ext
  simp [bstr]
theorem bstr_cells (l : List Int) (h : ∀ x ∈ l, 0 ≤ x ∧ x < 256) : ofBytes (bstr l) = cellsE eB8 l := by
  induction l with
  | nil => rfl
  | cons x r ih =>
    have hx := h x (by simp)
    have e : ofBytes (bstr (x :: r)) = .int .u8 ((b8 x).toNat : Nat) :: ofBytes (bstr r) := rfl
    have e2 : ((b8 x).toNat : Int) = x := by
      unfold b8
      simp
      omega
    rw [e, ih (fun y hy => h y (by simp [hy])), e2]
    rfl
theorem cvSB_b (m : Mem) (l : List Int) (h : ∀ x ∈ l, 0 ≤ x ∧ x < 256) : cvSB m (.string (bstr l)) = some (slO m.length l.length, m ++ [ownB eB8 l]) := by
  show some (Value.slice (some ⟨m.length, 0, none⟩) (bstr l).size (bstr l).size, m ++ [⟨ofBytes (bstr l), 1, true, true⟩]) = _
  rw [bstr_len, bstr_cells l h]
  rfl
theorem apS_own (m : Mem) (k c : Nat) (a l : List Int) (h : ∀ x ∈ l, 0 ≤ x ∧ x < 256) (hk : m[k]? = some (ownB eB8 a)) (hl : a.length + l.length < 1000000000) : apS m 1 1 (.slice (some ⟨k, 0, none⟩) a.length c) (.string (bstr l)) = some (slO m.length (a.length + l.length), m.set k ⟨cellsE eB8 a, 1, true, false⟩ ++ [ownB eB8 (a ++ l)]) := by
  show (if 1 = 1 then appendIn m 1 1 (.slice (some ⟨k, 0, none⟩) a.length c) (ofBytes (bstr l)) (bstr l).size else none) = _
  rw [if_pos rfl, bstr_len, bstr_cells l h]
  have hp := apL_sl (m := m ++ [ownB eB8 l]) (sz := 1) (bytes := 1) (n := k) (o := 0) (len := a.length) (c := c) (n2 := m.length) (o2 := 0) (len2 := l.length) (c2 := l.length) hl (by omega)
  unfold appendIn
  simp only [hk]
  rw [if_pos ⟨rfl, rfl, rfl, by omega, by omega⟩]
  have hr : rd m k 0 (a.length * 1) = some (cellsE eB8 a) := by
    rw [rd_rdM, hk]
    exact rdM_own eB8 a _ rfl
  rw [hr]
  simp only [ob_some]
  rw [← cellsE_append]
  rfl
end Go.Ab
namespace Go.Ab
set_option maxHeartbeats 8000000
set_option maxRecDepth 100000
theorem apS_nil (m : Mem) (l : List Int) (h : ∀ x ∈ l, 0 ≤ x ∧ x < 256) (h0 : l ≠ []) (hl : l.length < 1000000000) : apS m 1 1 (.slice none 0 0) (.string (bstr l)) = some (slO m.length l.length, m ++ [ownB eB8 l]) := by
  have hp := List.length_pos_iff.2 h0
  show (if 1 = 1 then appendIn m 1 1 (.slice none 0 0) (ofBytes (bstr l)) (bstr l).size else none) = _
  rw [if_pos rfl, bstr_len, bstr_cells l h]
  unfold appendIn
  simp only
  rw [if_neg (by omega), if_pos ⟨by omega, by omega⟩]
  rfl
def dgL (n : Int) : List Int := if n < 10 then [48 + n] else [48 + n / 10, 48 + n % 10]
def byOk (l : List Int) : Prop := ∀ x ∈ l, 0 ≤ x ∧ x < 256
theorem dgL_ok {n : Int} (h0 : 0 ≤ n) (h1 : n < 100) : byOk (dgL n) := by
  unfold dgL
  split
  · intro x hx; simp at hx; omega
  · intro x hx; simp at hx; omega
theorem dgL_len (n : Int) : (dgL n).length ≤ 2 := by unfold dgL; split <;> simp
theorem s_digI (n : Int) (h : (1 ≤ n ∧ n ≤ 6) ∨ (30 ≤ n ∧ n ≤ 37)) : X_impl_digits [.int .i64 n] [] = some (.string (bstr (dgL n)), []) := by
  have : n = 1 ∨ n = 2 ∨ n = 3 ∨ n = 4 ∨ n = 5 ∨ n = 6 ∨ n = 30 ∨ n = 31 ∨ n = 32 ∨ n = 33 ∨ n = 34 ∨ n = 35 ∨ n = 36 ∨ n = 37 := by omega
  rcases this with rfl | rfl | rfl | rfl | rfl | rfl | rfl | rfl | rfl | rfl | rfl | rfl | rfl | rfl
  · exact dg1
  · exact dg2
  · exact dg3
  · exact dg4
  · exact dg5
  · exact dg6
  · exact dg30
  · exact dg31
  · exact dg32
  · exact dg33
  · exact dg34
  · exact dg35
  · exact dg36
  · exact dg37
theorem s_digS (n : Int) (h0 : 0 ≤ n) (h1 : n < 100) : X_spec_l1Digits [.int .i64 n] [] = some (.string (bstr (dgL n)), []) := by
  by_cases h : n < 10
  · rw [ds_one' n h0 h]
    unfold dgL
    rw [if_pos h]
  · rw [ds_two n (by omega) h1, bstr_app]
    unfold dgL
    rw [if_neg h]
    rfl
abbrev dB (a : List Int) : Blk := ⟨cellsE eB8 a, 1, true, false⟩
theorem t_text0 (l : List Int) (h : byOk l) (h0 : l ≠ []) (hl : l.length < 1000000) : X_impl_put_text [ptr 0, .string (bstr l)] [blk [.slice none 0 0]] = some (.tuple #[], [blk [slO 1 l.length], ownB eB8 l]) := by
  have a := fun m => apS_nil m l h h0 (by omega)
  simp -implicitDefEqProofs [X_impl_put_text, retK_eq, a]
theorem t_text1 (a l : List Int) (h : byOk l) (hl : a.length + l.length < 1000000) : X_impl_put_text [ptr 0, .string (bstr l)] [blk [slO 1 a.length], ownB eB8 a] = some (.tuple #[], [blk [slO 2 (a ++ l).length], dB a, ownB eB8 (a ++ l)]) := by
  have p := fun m k c hk => apS_own m k c a l h hk (by omega)
  simp -implicitDefEqProofs [X_impl_put_text, retK_eq, p]
theorem esc_ok {l : List Int} (h : byOk l) : byOk (27 :: l) := fun x hx => by
  rcases List.mem_cons.1 hx with rfl | hx
  · omega
  · exact h x hx
theorem b27 (l : List Int) : (⟨#[27]⟩ : ByteArray) ++ bstr l = bstr (27 :: l) := bstr_app [27] l
theorem t_esc0 (l : List Int) (h : byOk l) (hl : l.length < 900000) : X_impl_put_esc [ptr 0, .string (bstr l)] [blk [.slice none 0 0]] = some (.tuple #[], [blk [slO 1 (27 :: l).length], ownB eB8 (27 :: l)]) := by
  have a := t_text0 (27 :: l) (esc_ok h) (by simp) (by simp; omega)
  have z : (bstr l).size = l.length := bstr_len l
  have z1 : (⟨#[27]⟩ : ByteArray).size = 1 := rfl
  have hz : 1 + l.length ≤ 4611686018427387904 := by omega
  simp -implicitDefEqProofs [X_impl_put_esc, retK_eq, z, z1, hz, b27, a]
theorem t_esc1 (a l : List Int) (h : byOk l) (hl : a.length + l.length < 900000) : X_impl_put_esc [ptr 0, .string (bstr l)] [blk [slO 1 a.length], ownB eB8 a] = some (.tuple #[], [blk [slO 2 (a ++ 27 :: l).length], dB a, ownB eB8 (a ++ 27 :: l)]) := by
  have p := t_text1 a (27 :: l) (esc_ok h) (by simp; omega)
  have z : (bstr l).size = l.length := bstr_len l
  have z1 : (⟨#[27]⟩ : ByteArray).size = 1 := rfl
  have hz : 1 + l.length ≤ 4611686018427387904 := by omega
  simp -implicitDefEqProofs [X_impl_put_esc, retK_eq, z, z1, hz, b27, p]
def plL (y : Int) : List Int := 27 :: (91 :: (dgL (y + 1) ++ (59 :: (dgL 1 ++ [72]))))
theorem pl_ok {y : Int} (h0 : 0 ≤ y) (h1 : y ≤ 5) : byOk (91 :: (dgL (y + 1) ++ (59 :: (dgL 1 ++ [72])))) := by
  have a := dgL_ok (n := y + 1) (by omega) (by omega)
  have b := dgL_ok (n := 1) (by omega) (by omega)
  intro x hx
  simp only [List.mem_cons, List.mem_append, List.not_mem_nil, or_false] at hx
  rcases hx with rfl | hx | rfl | hx | rfl
  · omega
  · exact a x hx
  · omega
  · exact b x hx
  · omega
theorem pl_str (a b : List Int) : (⟨#[91]⟩ : ByteArray) ++ bstr a ++ (⟨#[59]⟩ : ByteArray) ++ bstr b ++ (⟨#[72]⟩ : ByteArray) = bstr (91 :: (a ++ (59 :: (b ++ [72])))) := by
  show bstr [91] ++ bstr a ++ bstr [59] ++ bstr b ++ bstr [72] = _
  simp only [bstr_app]
  congr 1
  simp
theorem t_place0 (y : Int) (h0 : 0 ≤ y) (h1 : y ≤ 5) : X_impl_put_place [ptr 0, .int .i64 y, .int .i64 0] [blk [.slice none 0 0]] = some (.tuple #[], [blk [slO 1 (plL y).length], ownB eB8 (plL y)]) := by
  have d1 := s_digI (y + 1) (by omega)
  have d2 := s_digI 1 (by omega)
  have w1 : IntKind.i64.wrap (y + 1) = y + 1 := wrap_i64 (by omega) (by omega)
  have w2 : IntKind.i64.wrap 1 = 1 := rfl
  have l1 := dgL_len (y + 1)
  have l2 := dgL_len 1
  have a := t_esc0 _ (pl_ok h0 h1) (by simp; omega)
  have z := fun l => bstr_len l
  have z1 : (⟨#[91]⟩ : ByteArray).size = 1 := rfl
  have z2 : (⟨#[59]⟩ : ByteArray).size = 1 := rfl
  have z3 : (⟨#[72]⟩ : ByteArray).size = 1 := rfl
  have hs := pl_str (dgL (y + 1)) (dgL 1)
  have g1 : 1 + (dgL (y + 1)).length ≤ 4611686018427387904 := by omega
  have g2 : 1 + (dgL (y + 1)).length + 1 ≤ 4611686018427387904 := by omega
  have g3 : 1 + (dgL (y + 1)).length + 1 + (dgL 1).length ≤ 4611686018427387904 := by omega
  have g4 : 1 + (dgL (y + 1)).length + 1 + (dgL 1).length + 1 ≤ 4611686018427387904 := by omega
  unfold plL
  generalize dgL (y + 1) = A at *
  generalize dgL 1 = B at *
  simp -implicitDefEqProofs [X_impl_put_place, retK_eq, d1, d2, w1, w2, z, z1, z2, z3, g1, g2, g3, g4, hs, a, ByteArray.size_append]
end Go.Ab
