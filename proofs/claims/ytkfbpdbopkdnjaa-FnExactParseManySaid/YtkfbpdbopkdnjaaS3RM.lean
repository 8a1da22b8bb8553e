/- What the functions of the program answer, for all arguments that the theorems name as conditions. -/
import Derived.Test.YtkfbpdbopkdnjaaS3P2
import Derived.Test.YtkfbpdbopkdnjaaS3E4a
import Derived.Test.YtkfbpdbopkdnjaaS3B1
import Derived.Test.YtkfbpdbopkdnjaaFD
namespace Go.Ab
set_option linter.unusedSimpArgs false
set_option linter.unusedVariables false
set_option maxHeartbeats 4000000

/-! ## Actions of a parser, one behind the other -/
def runM (p : ParT) : List Int → Option (List ActT × ParT)
  | [] => some ([], p)
  | c :: r => if chB c = true then (runM (stepP p c).2 r).map fun x => ((if (stepP p c).1.k = 0 then x.1 else (stepP p c).1 :: x.1), x.2) else none
abbrev actPre (a : ActT) : List Value := [.int .i64 a.k, .int .i64 a.c, .int .i64 a.s, .bool a.lead]
def eAc : Enc ActT := ⟨5, fun a => actPre a ++ [frS eI6 a.ns], by decide, fun _ => rfl, fun _ => rfl⟩
/-- An action; has it numbers in a block of its own? -/
def elA (x : ActT × Bool) : El Int := ⟨actPre x.1, if x.2 = true then .ow [] x.1.ns [] 0 x.1.ns.length else .no nil0, []⟩
def okA (x : ActT × Bool) : Prop := x.2 = false → x.1.ns = []
theorem elA_ok (x : ActT × Bool) : (elA x).ok eI6 := by
  refine ⟨rfl, rfl, ?_⟩
  unfold elA
  split
  · exact fun _ => rfl
  · exact .inl rfl
theorem elA_okH (x : ActT × Bool) : (elA x).okH := ⟨rfl, rfl⟩
theorem ok_Al (l : List (ActT × Bool)) : ∀ e ∈ l.map elA, e.ok eI6 := by
  intro e he
  obtain ⟨x, _, rfl⟩ := List.mem_map.1 he
  exact elA_ok x
theorem okH_Al (l : List (ActT × Bool)) : ∀ e ∈ l.map elA, e.okH := by
  intro e he
  obtain ⟨x, _, rfl⟩ := List.mem_map.1 he
  exact elA_okH x
theorem elA_sz (l : List (ActT × Bool)) : ∀ e ∈ l.map elA, e.a.length + 1 + e.b.length = 5 := by
  intro e he
  obtain ⟨x, _, rfl⟩ := List.mem_map.1 he
  rfl
theorem famX_Alen (k : Nat) (l : List (ActT × Bool)) : (famX k (l.map elA)).length = l.length * 5 := by
  have := famX_len (s := 5) (l.map elA) k (elA_sz l)
  simpa using this
theorem elA_n (x : ActT × Bool) : (elA x).p.n = if x.2 = true then 1 else 0 := by
  unfold elA
  simp only
  split <;> rfl
theorem famN_A : ∀ l : List (ActT × Bool), famN (l.map elA) ≤ l.length
  | [] => Nat.le_refl _
  | x :: r => by
    have := famN_A r
    rw [List.map_cons, famN, elA_n, List.length_cons]
    split <;> omega
/-- What is heard, told behind a memory. -/
def HFN (a p : List Int) (va vp : Value) (bs : Mem) (N : Nat) : Prop := (a = [] ∧ p = [] ∧ va = nil0 ∧ vp = nil0 ∧ bs = []) ∨ (a = [] ∧ p = [] ∧ va = nil0 ∧ vp = roS 0 [] ∧ bs = []) ∨ (a = [] ∧ va = nil0 ∧ vp = slO N p.length ∧ bs = [ownB eI6 p]) ∨ (p = [] ∧ va = slO N a.length ∧ vp = nil0 ∧ bs = [ownB eI6 a])
theorem eI6_hard : eI6.Hard := eI_hard .i64
theorem f_tuple {X : List Value → Mem → Option VM} {m M0 : Mem} {args fr : List Value} {a : ActT} {p : ParT} {va vp : Value} (ha : mapO (fz 64 m) args = some fr) (hX : X fr [] = some (.tuple #[actW a va, parW p vp], M0)) (h : HF a.ns p.ns va vp M0) : ∃ va' vp' bs, HFN a.ns p.ns va' vp' bs m.length ∧ fcall X args m = some (.tuple #[actW a va', parW p vp'], m ++ bs) := by
  have hs := fun N K l => shB_own eI6 eI6_hard N K l
  rcases h with ⟨e1, e2, rfl, rfl, rfl⟩ | ⟨e1, e2, rfl, rfl, rfl⟩ | ⟨e1, rfl, rfl, rfl⟩ | ⟨e1, rfl, rfl, rfl⟩
  · exact ⟨nil0, nil0, [], .inl ⟨e1, e2, rfl, rfl, rfl⟩, by rw [fcall_eq, ha, bo_some, hX]; simp⟩
  · exact ⟨nil0, roS 0 [], [], .inr (.inl ⟨e1, e2, rfl, rfl, rfl⟩), by rw [fcall_eq, ha, bo_some, hX]; simp⟩
  · exact ⟨nil0, slO m.length p.ns.length, [ownB eI6 p.ns], .inr (.inr (.inl ⟨e1, rfl, rfl, rfl⟩)), by rw [fcall_eq, ha, bo_some, hX]; simp [mapB, hs]⟩
  · exact ⟨slO m.length a.ns.length, nil0, [ownB eI6 a.ns], .inr (.inr (.inr ⟨e1, rfl, rfl, rfl⟩)), by rw [fcall_eq, ha, bo_some, hX]; simp [mapB, hs]⟩
end Go.Ab
