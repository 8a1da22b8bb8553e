/- What the functions of the program answer, for all arguments that the theorems name as conditions. -/
import Derived.Test.YtkfbpdbopkdnjaaXFnExactEventsFor
import Derived.Test.YtkfbpdbopkdnjaaFD
import Derived.Test.YtkfbpdbopkdnjaaS3B0
import Derived.Test.YtkfbpdbopkdnjaaS3B3z
namespace Go.Ab
set_option linter.unusedSimpArgs false
set_option linter.unusedVariables false
set_option maxHeartbeats 8000000

/-! ## Bytes, slices of bytes -/
theorem l_toByteS (r : List Int) : ∀ (p : List Int) (q n : Nat), r.length < q → n = (p ++ r).length → n < 1000000000 → L_laws_toByteS 0 q 0 [frS eU8 (p ++ r), .slice (some ⟨0, 0, none⟩) n n, .int .i64 p.length] [ownB eU8 (p ++ List.replicate r.length 0)] = some (.slice (some ⟨0, 0, none⟩) n n, [ownB eU8 (p ++ r)]) := by
  induction r with
  | nil =>
    intro p q n hq hn hl
    obtain ⟨q, rfl⟩ : ∃ n, q = n + 1 := ⟨q - 1, by omega⟩
    simp -implicitDefEqProofs [L_laws_toByteS, retK_eq]
  | cons x r ih =>
    intro p q n hq hn hl
    obtain ⟨q, rfl⟩ : ∃ n, q = n + 1 := ⟨q - 1, by omega⟩
    have h := ih (p ++ [x]) q n (by simp at hq; omega) (by simpa using hn) hl
    simp at h
    have hx := ixa_mid eU8 (sz := 1) rfl .i64 p x r
    have hw := wrap_next (n := p.length) (by simp at hn; omega)
    have hn' : n = p.length + (r.length + 1) := by simpa using hn
    subst hn'
    have hy := lay_mid eU8 p 0 (List.replicate r.length 0) x
    simp at hy
    simp +contextual -implicitDefEqProofs [L_laws_toByteS, retK_eq, cutK_eq, hx, hw, h, List.replicate_succ, hy]
theorem s_toByteS (l : List Int) (hl : l.length < 1000000000) : X_laws_toByteS [frS eU8 l] [] = some (slO 0 l.length, [ownB eU8 l]) := by
  have h := l_toByteS l [] QQ l.length (by unfold QQ; omega) rfl hl
  simp at h
  simp +contextual -implicitDefEqProofs [X_laws_toByteS, cutK_eq, retK_eq, h, hl]
def eBS : Enc (List Int) := ⟨1, fun l => [frS eU8 l], by decide, fun _ => rfl, fun _ => rfl⟩
@[simp] theorem eBS_f (l : List Int) : eBS.f l = [frS eU8 l] := (rfl)
@[simp] theorem eBS_sz : eBS.sz = 1 := (rfl)
/-- A slice of bytes in a block of its own. -/
def elS (l : List Int) : El Int := ⟨[], .ow [] l [] 0 l.length, []⟩
def elZ : El Int := ⟨[], .no (.slice none 0 0), []⟩
@[simp] theorem elS_p (l : List Int) : (elS l).p = .ow [] l [] 0 l.length := (rfl)
theorem elS_ok (l : List Int) : (elS l).ok eU8 := ⟨rfl, rfl, fun _ => rfl⟩
theorem elZ_ok : elZ.ok eU8 := ⟨rfl, rfl, .inl rfl⟩
theorem elS_N : ∀ l : List (List Int), famN (l.map elS) = l.length
  | [] => rfl
  | x :: r => by
    rw [List.map_cons, famN, elS_N r, List.length_cons]
    show 1 + r.length = _
    omega
theorem elZ_N : ∀ n, famN (List.replicate n elZ) = 0
  | 0 => rfl
  | n + 1 => by
    rw [List.replicate_succ, famN, elZ_N n]
    rfl
theorem famX_S (k : Nat) (l : List Int) (r : List (El Int)) : famX k (elS l :: r) = slO k l.length :: famX (k + 1) r := rfl
theorem famX_Z (k : Nat) (r : List (El Int)) : famX k (elZ :: r) = .slice none 0 0 :: famX k r := rfl
theorem famX_zero_rep (k : Nat) : ∀ n, famX k (List.replicate n elZ) = List.replicate n (.slice none 0 0)
  | 0 => rfl
  | n + 1 => by rw [List.replicate_succ, famX_Z, famX_zero_rep k n, List.replicate_succ]
theorem famM_Z : ∀ n, famM eU8 (List.replicate n elZ) = []
  | 0 => rfl
  | n + 1 => by
    rw [List.replicate_succ, famM, famM_Z n]
    rfl
theorem famX_Slen (k : Nat) (l : List (List Int)) : (famX k (l.map elS)).length = l.length := by
  have := famX_len (s := 1) (l.map elS) k (fun e he => by
    obtain ⟨x, _, rfl⟩ := List.mem_map.1 he
    rfl)
  simpa using this
abbrev memS (p : List (List Int)) (n : Nat) : Mem := famB 1 1 (p.map elS ++ List.replicate n elZ) :: famM eU8 (p.map elS ++ List.replicate n elZ)
theorem ok_S (p : List (List Int)) (n : Nat) : ∀ e ∈ p.map elS ++ List.replicate n elZ, e.ok eU8 := by
  intro e he
  rcases List.mem_append.1 he with h | h
  · obtain ⟨x, _, rfl⟩ := List.mem_map.1 h
    exact elS_ok x
  · rw [List.eq_of_mem_replicate h]
    exact elZ_ok
theorem N_S (p : List (List Int)) (n : Nat) : famN (p.map elS ++ List.replicate n elZ) = p.length := by
  rw [famN_app, elS_N, elZ_N, Nat.add_zero]
theorem lay_one (L : List Value) (a v : Value) (r : List Value) : lay (L ++ a :: r) L.length [v] = L ++ v :: r := by
  induction L with
  | nil => simp [lay, lay_nil]
  | cons b L ih => simpa [lay] using ih
theorem famM_S1 (x : List Int) : famM eU8 ([x].map elS) = [ownB eU8 x] := by
  show [ownB eU8 ([] ++ (x ++ []))] ++ [] = _
  simp
theorem lay_S (p : List (List Int)) (n : Nat) (x : List Int) : lay (famX 1 (p.map elS ++ List.replicate (n + 1) elZ)) p.length [slO (p.length + 1) x.length] = famX 1 ((p ++ [x]).map elS ++ List.replicate n elZ) := by
  rw [famX_app, elS_N, List.replicate_succ, famX_Z, List.map_append, List.append_assoc, famX_app, elS_N]
  have hl := famX_Slen 1 p
  rw [show ([x].map elS ++ List.replicate n elZ) = elS x :: List.replicate n elZ from rfl, famX_S, famX_zero_rep, famX_zero_rep, Nat.add_comm 1 p.length]
  rw [← hl]
  exact lay_one _ _ _ _
theorem famM_S (p : List (List Int)) (n : Nat) (x : List Int) : famM eU8 (p.map elS ++ List.replicate (n + 1) elZ) ++ [ownB eU8 x] = famM eU8 ((p ++ [x]).map elS ++ List.replicate n elZ) := by
  rw [famM_app, famM_Z, List.append_nil, famM_app, famM_Z, List.append_nil, List.map_append, famM_app, famM_S1]
end Go.Ab
