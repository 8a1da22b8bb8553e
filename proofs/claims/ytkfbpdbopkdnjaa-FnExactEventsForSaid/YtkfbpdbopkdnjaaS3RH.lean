/- What the functions of the program answer, for all arguments that the theorems name as conditions. -/
import Derived.Test.YtkfbpdbopkdnjaaS3RG
import Derived.Test.YtkfbpdbopkdnjaaS3RBe
namespace Go.Ab
set_option linter.unusedSimpArgs false
set_option linter.unusedVariables false
set_option maxHeartbeats 4000000

/-! ## EventsFor of the program -/
/-- An event whose bytes were cloned: no bytes, no block. -/
def elC (e : EvT) : El Int := if e.d = [] then ⟨e.pre, .no (roS 0 []), e.post⟩ else elE e
def clV (e : EvT) (k : Nat) : Value := if e.d = [] then roS 0 [] else slO k e.d.length
theorem elC_ok (e : EvT) : (elC e).ok eU8 := by
  unfold elC
  split
  · exact ⟨rfl, rfl, .inr rfl⟩
  · exact elE_ok e
theorem elC_okH (e : EvT) : (elC e).okH := by
  unfold elC
  split <;> exact ⟨rfl, rfl⟩
theorem elC_n (e : EvT) : (elC e).p.n = if e.d = [] then 0 else 1 := by
  unfold elC
  split <;> rfl
theorem elC_cells (e : EvT) (k : Nat) : (elC e).a ++ ((elC e).p.val k :: (elC e).b) = e.pre ++ (clV e k :: e.post) := by
  unfold elC clV
  split <;> rfl
theorem ok_C (l : List EvT) : ∀ e ∈ l.map elC, e.ok eU8 := by
  intro e he
  obtain ⟨x, _, rfl⟩ := List.mem_map.1 he
  exact elC_ok x
theorem okH_C (l : List EvT) : ∀ e ∈ l.map elC, e.okH := by
  intro e he
  obtain ⟨x, _, rfl⟩ := List.mem_map.1 he
  exact elC_okH x
theorem elC_sz (l : List EvT) : ∀ e ∈ l.map elC, e.a.length + 1 + e.b.length = 13 := by
  intro e he
  obtain ⟨x, _, rfl⟩ := List.mem_map.1 he
  unfold elC
  split <;> rfl
theorem famX_Clen (k : Nat) (l : List EvT) : (famX k (l.map elC)).length = l.length * 13 := by
  have := famX_len (s := 13) (l.map elC) k (elC_sz l)
  simpa using this
theorem famN_C : ∀ l : List EvT, famN (l.map elC) ≤ l.length
  | [] => Nat.le_refl _
  | x :: r => by
    have := famN_C r
    rw [List.map_cons, famN, elC_n, List.length_cons]
    split <;> omega
theorem fro_C (l : List EvT) : roS (l.map elC).length ((l.map elC).flatMap (El.fro eU8)) = frS eEv l := by
  rw [List.length_map]
  unfold frS
  congr 1
  induction l with
  | nil => rfl
  | cons x r ih =>
    have e : El.fro eU8 (elC x) = eEv.f x := by
      unfold elC
      split
      · rename_i h
        show x.pre ++ (roS 0 [] :: x.post) = x.pre ++ (frS eU8 x.d :: x.post)
        rw [h]
        rfl
      · rfl
    rw [List.map_cons, List.flatMap_cons, e, cellsE_cons]
    congr 1
theorem s_clone (e : EvT) (h : e.d.length < 1000000000) : X_impl_Event_clone [evV e] [] = some (evW e (clV e 0), if e.d = [] then [] else [ownB eU8 e.d]) := by
  by_cases hd : e.d = []
  · simp -implicitDefEqProofs [X_impl_Event_clone, retK_eq, hd, clV, frS_nil]
  · have c := fun m => cloneV_frS eU8 eU8_hard (sz := 1) rfl m e.d hd h
    simp -implicitDefEqProofs [X_impl_Event_clone, retK_eq, hd, clV, c]
end Go.Ab
