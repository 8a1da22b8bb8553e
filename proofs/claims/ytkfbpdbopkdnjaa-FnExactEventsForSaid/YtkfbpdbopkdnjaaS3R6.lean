/- What the functions of the program answer, for all arguments that the theorems name as conditions. -/
import Derived.Test.YtkfbpdbopkdnjaaS3R5e
import Derived.Test.YtkfbpdbopkdnjaaS3R0i
namespace Go.Ab
set_option linter.unusedSimpArgs false
set_option linter.unusedVariables false
set_option maxHeartbeats 8000000

/-! ## A copy of events -/
theorem elE_N : ∀ l : List EvT, famN (l.map elE) = l.length
  | [] => rfl
  | x :: r => by
    rw [List.map_cons, famN, elE_N r, List.length_cons]
    show 1 + r.length = _
    omega
theorem elZE_N : ∀ n, famN (List.replicate n elZE) = 0
  | 0 => rfl
  | n + 1 => by
    rw [List.replicate_succ, famN, elZE_N n]
    rfl
abbrev evC (k : Nat) (e : EvT) : List Value := e.pre ++ (slO k e.d.length :: e.post)
abbrev evZ : List Value := [.int .i64 0, .int .i64 0, .int .i64 0, .bool false, .slice none 0 0, .int .i64 0, .int .i64 0, .int .i64 0, .int .i64 0, .int .i64 0, .int .i64 0, .int .i64 0, .int .i64 0]
theorem famX_E (k : Nat) (e : EvT) (r : List (El Int)) : famX k (elE e :: r) = evC k e ++ famX (k + 1) r := by
  show e.pre ++ (slO k e.d.length :: (e.post ++ famX (k + 1) r)) = _
  simp
theorem famX_ZE (k : Nat) (r : List (El Int)) : famX k (elZE :: r) = evZ ++ famX k r := rfl
theorem famX_ZErep (k : Nat) : ∀ n, famX k (List.replicate n elZE) = (List.replicate n evZ).flatten
  | 0 => rfl
  | n + 1 => by rw [List.replicate_succ, famX_ZE, famX_ZErep k n, List.replicate_succ, List.flatten_cons]
theorem famM_ZE : ∀ n, famM eU8 (List.replicate n elZE) = []
  | 0 => rfl
  | n + 1 => by
    rw [List.replicate_succ, famM, famM_ZE n]
    rfl
theorem famX_Elen (k : Nat) (l : List EvT) : (famX k (l.map elE)).length = l.length * 13 := by
  have := famX_len (s := 13) (l.map elE) k (fun e he => by
    obtain ⟨x, _, rfl⟩ := List.mem_map.1 he
    rfl)
  simpa using this
abbrev memE (p : List EvT) (n : Nat) : Mem := famB 1 13 (p.map elE ++ List.replicate n elZE) :: famM eU8 (p.map elE ++ List.replicate n elZE)
theorem ok_E (p : List EvT) (n : Nat) : ∀ e ∈ p.map elE ++ List.replicate n elZE, e.ok eU8 := by
  intro e he
  rcases List.mem_append.1 he with h | h
  · obtain ⟨x, _, rfl⟩ := List.mem_map.1 h
    exact elE_ok x
  · rw [List.eq_of_mem_replicate h]
    exact elZE_ok
theorem N_E (p : List EvT) (n : Nat) : famN (p.map elE ++ List.replicate n elZE) = p.length := by
  rw [famN_app, elE_N, elZE_N, Nat.add_zero]
theorem lay_seg (L a b R : List Value) (h : a.length = b.length) : lay (L ++ (a ++ R)) L.length b = L ++ (b ++ R) := by
  rw [lay_eq _ _ _ (by simp; omega)]
  unfold splice
  rw [List.take_left, ← h, ← List.append_assoc L a R, ← List.length_append, List.drop_left, List.append_assoc]
theorem famM_E1 (x : EvT) : famM eU8 ([x].map elE) = [ownB eU8 x.d] := by
  show [ownB eU8 ([] ++ (x.d ++ []))] ++ [] = _
  simp
theorem lay_E (p : List EvT) (n : Nat) (x : EvT) : lay (famX 1 (p.map elE ++ List.replicate (n + 1) elZE)) (p.length * 13) (evC (p.length + 1) x) = famX 1 ((p ++ [x]).map elE ++ List.replicate n elZE) := by
  rw [famX_app, elE_N, List.replicate_succ, famX_ZE, List.map_append, List.append_assoc, famX_app, elE_N]
  have hl := famX_Elen 1 p
  rw [show ([x].map elE ++ List.replicate n elZE) = elE x :: List.replicate n elZE from rfl, famX_E, famX_ZErep, famX_ZErep, Nat.add_comm 1 p.length]
  rw [← hl]
  exact lay_seg _ _ _ _ rfl
theorem famM_E (p : List EvT) (n : Nat) (x : EvT) : famM eU8 (p.map elE ++ List.replicate (n + 1) elZE) ++ [ownB eU8 x.d] = famM eU8 ((p ++ [x]).map elE ++ List.replicate n elZE) := by
  rw [famM_app, famM_ZE, List.append_nil, famM_app, famM_ZE, List.append_nil, List.map_append, famM_app, famM_E1]
theorem l_toEventS (r : List EvT) : ∀ (p : List EvT) (q n : Nat), r.length < q → n = (p ++ r).length → n < 1100000 → (∀ x ∈ r, x.d.length < 1000000000) → L_laws_toEventS 0 q 0 [frS eEv (p ++ r), slO 0 n, .int .i64 p.length] (memE p r.length) = some (slO 0 n, memE (p ++ r) 0) := by
  induction r with
  | nil =>
    intro p q n hq hn hl hb
    obtain ⟨q, rfl⟩ : ∃ n, q = n + 1 := ⟨q - 1, by omega⟩
    have hn' : n = p.length := by simpa using hn
    subst hn'
    have hret := fun pv => ret0_fam eU8 (s := 13) (n := p.length) (c := p.length) (es := p.map elE ++ List.replicate 0 elZE) (pv := pv) (ok_E p 0) (by rw [N_E]; omega)
    rw [List.append_nil]
    show L_laws_toEventS 0 (q + 1) 0 [frS eEv p, slO 0 p.length, .int .i64 p.length] (memE p 0) = some (slO 0 p.length, memE p 0)
    generalize hM : memE p 0 = M
    have hret : ∀ pv, retK 0 M pv (slO 0 p.length) = some (slO 0 p.length, M) := by rw [← hM]; exact hret
    simp -implicitDefEqProofs [L_laws_toEventS, hret]
  | cons x r ih =>
    intro p q n hq hn hl hb
    obtain ⟨q, rfl⟩ : ∃ n, q = n + 1 := ⟨q - 1, by omega⟩
    have hn' : n = p.length + (r.length + 1) := by simpa using hn
    have h := ih (p ++ [x]) q n (by simp at hq; omega) (by simpa using hn) hl (fun y hy => hb y (by simp [hy]))
    have hx := ixa_mid eEv (sz := 13) rfl .i64 p x r
    have hw := wrap_next (n := p.length) (by omega)
    have hc := s_toEvent x (hb x (by simp))
    have hz := fun n' o cc => ixa_sl (sz := 13) .i64 (n := n') (o := o) (len := n) (c := cc) (j := (p.length : Int)) (by omega) (by omega)
    simp only [Int.toNat_natCast] at hz
    have hFl : (famM eU8 (p.map elE ++ List.replicate (r.length + 1) elZE)).length = p.length := by rw [famM_len, N_E]
    have hC : (famX 1 (p.map elE ++ List.replicate (r.length + 1) elZE)).length = (p.length + (r.length + 1)) * 13 := by
      have := famX_len (s := 13) (p.map elE ++ List.replicate (r.length + 1) elZE) 1 (fun e he => by
        rcases List.mem_append.1 he with h | h
        · obtain ⟨y, _, rfl⟩ := List.mem_map.1 h
          rfl
        · rw [List.eq_of_mem_replicate h]
          rfl)
      simpa using this
    have hF := famM_E p r.length x
    have hlay := lay_E p r.length x
    have hcut := fun pv J => cut0_fam eU8 (s := 13) (n := n) (c := n) (es := (p ++ [x]).map elE ++ List.replicate r.length elZE) (xs := [frS eEv (p ++ x :: r)]) (ys := [.int .i64 ((p.length : Int) + 1)]) (pv := pv) (J := J) rfl rfl (ok_E (p ++ [x]) r.length) (by rw [N_E]; simp; omega)
    have e1 : p ++ [x] ++ r = p ++ x :: r := by simp
    have e2 : ((p ++ [x]).length : Int) = p.length + 1 := by simp
    rw [e1, e2] at h
    simp only [memE, famB] at h hcut ⊢
    simp only [List.singleton_append] at hcut
    rw [List.length_cons]
    generalize famM eU8 (p.map elE ++ List.replicate (r.length + 1) elZE) = F1 at *
    generalize famX 1 (p.map elE ++ List.replicate (r.length + 1) elZE) = C at *
    generalize famM eU8 ((p ++ [x]).map elE ++ List.replicate r.length elZE) = F2 at *
    generalize famX 1 ((p ++ [x]).map elE ++ List.replicate r.length elZE) = C2 at *
    simp only [evC, EvT.pre, EvT.post, List.cons_append, List.nil_append] at hlay
    have g1 : (p.length : Int) < p.length + (r.length + 1) := by omega
    have g2 : p.length * 13 + 13 ≤ (p.length + (r.length + 1)) * 13 := by omega
    simp (maxSteps := 400000) -implicitDefEqProofs [L_laws_toEventS, hx, hw, hc, hz, hFl, hC, g1, g2, hlay, hF, hcut, h]
end Go.Ab
