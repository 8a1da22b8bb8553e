/- What the functions of the program answer, for all arguments that the theorems name as conditions. -/
import Derived.Test.YtkfbpdbopkdnjaaS3B2a
namespace Go.Ab
set_option linter.unusedSimpArgs false
set_option linter.unusedVariables false
set_option maxHeartbeats 8000000

/-! ## What a parser makes of a character -/
structure ActT where
  k : Int
  c : Int
  s : Int
  lead : Bool
  ns : List Int
abbrev actW (a : ActT) (v : Value) : Value := .agg #[.int .i64 a.k, .int .i64 a.c, .int .i64 a.s, .bool a.lead, v]
abbrev parW (p : ParT) (v : Value) : Value := .agg #[.int .i64 p.k, .int .i64 p.s, .bool p.lead, v]
abbrev nil0 : Value := .slice none 0 0
def a0 : ActT := ⟨0, 0, 0, false, []⟩
def p0 : ParT := ⟨0, 0, false, []⟩
def stepE (c : Int) : ActT × ParT := if c = 91 then (a0, ⟨2, 0, false, [0]⟩) else if c = 40 then (a0, ⟨3, 1, false, []⟩) else if c = 41 then (a0, ⟨3, 2, false, []⟩) else if inB c 48 126 = true then (⟨3, c, 0, false, []⟩, p0) else (a0, p0)
def dig (ns : List Int) (c : Int) : List Int := ns.set (ns.length - 1) (min (10 * gt ns (ns.length - 1) + c - 48) 999)
def stepN (p : ParT) (c : Int) : ActT × ParT := if inB c 48 57 = true then (a0, ⟨p.k, p.s, p.lead, dig p.ns c⟩) else if c = 59 then (if p.ns.length < 6 then (a0, ⟨p.k, p.s, p.lead, p.ns ++ [0]⟩) else (a0, p)) else if c = 63 then (a0, ⟨p.k, p.s, true, p.ns⟩) else if inB c 64 126 = true then (⟨4, c, 0, p.lead, p.ns⟩, p0) else if 126 < c then (a0, p0) else (a0, p)
def stepP (p : ParT) (c : Int) : ActT × ParT := if c = 24 then (a0, p0) else if c = 26 then (a0, p0) else if c = 27 then (a0, ⟨1, 0, false, []⟩) else if c < 32 then (⟨2, c, 0, false, []⟩, p) else if c = 127 then (a0, p) else if p.k = 0 then (⟨1, c, 0, false, []⟩, p0) else if p.k = 1 then stepE c else if p.k = 3 then (⟨5, c, p.s, false, []⟩, p0) else stepN p c
/-- A slice of numbers that is empty, or lies in a block of its own. -/
def SLT (l : List Int) (v : Value) (m : Mem) (a : Nat) : Prop := (l = [] ∧ m = [] ∧ (v = nil0 ∨ v = roS 0 [])) ∨ (v = slO a l.length ∧ m = [ownB eI6 l])
/-- An action and a parser, of which at most one has numbers in a block of its own. -/
def HF (a p : List Int) (va vp : Value) (m : Mem) : Prop := (a = [] ∧ p = [] ∧ va = nil0 ∧ vp = nil0 ∧ m = []) ∨ (a = [] ∧ p = [] ∧ va = nil0 ∧ vp = roS 0 [] ∧ m = []) ∨ (a = [] ∧ va = nil0 ∧ vp = slO 0 p.length ∧ m = [ownB eI6 p]) ∨ (p = [] ∧ va = slO 0 a.length ∧ vp = nil0 ∧ m = [ownB eI6 a])
theorem par_facts {p : ParT} (h : parF p = 0) : (p.k = 0 ∨ p.k = 1 ∨ p.k = 2 ∨ p.k = 3) ∧ (p.k ≠ 2 → p.ns = [] ∧ p.lead = false) ∧ (p.k = 2 → 1 ≤ p.ns.length ∧ p.ns.length ≤ 6 ∧ ∀ x ∈ p.ns, 0 ≤ x ∧ x ≤ 999) ∧ (p.k ≠ 3 → p.s = 0) ∧ (p.k = 3 → p.s = 1 ∨ p.s = 2) := by
  have hn : emP p = true → p.ns = [] ∧ p.lead = false := by
    intro h
    simp [emP] at h
    exact h
  have hp : prmF p.ns = 0 → 1 ≤ p.ns.length ∧ p.ns.length ≤ 6 ∧ ∀ x ∈ p.ns, 0 ≤ x ∧ x ≤ 999 := by
    intro h
    unfold prmF at h
    split at h
    · rename_i h1
      split at h
      · rename_i h2
        simp [inB] at h1
        refine ⟨by omega, by omega, fun x hx => ?_⟩
        unfold allP at h2
        rw [List.all_eq_true] at h2
        have := h2 x hx
        simp [inB] at this
        exact this
      · cases h
    · cases h
  unfold parF at h
  split at h
  · rename_i h1
    split at h
    · rename_i h2
      exact ⟨.inr (.inr (.inl h1)), fun e => absurd h1 e, fun _ => hp h, fun _ => h2, fun e => by omega⟩
    · cases h
  · rename_i h1
    split at h
    · rename_i h2
      split at h
      · rename_i h3
        split at h
        · rename_i h4
          simp [inB] at h4
          exact ⟨.inr (.inr (.inr h2)), fun _ => hn h3, fun e => absurd e h1, fun e => absurd h2 e, fun _ => by omega⟩
        · cases h
      · cases h
    · rename_i h2
      split at h
      · rename_i h3
        split at h
        · rename_i h4
          refine ⟨?_, fun _ => hn h4.1, fun e => absurd e h1, fun _ => h4.2, fun e => absurd e h2⟩
          rcases h3 with h3 | h3
          · exact .inl h3
          · exact .inr (.inl h3)
        · cases h
      · cases h
theorem gt_in {l : List Int} {a b : Int} (h : ∀ x ∈ l, a ≤ x ∧ x ≤ b) {i : Nat} (hi : i < l.length) : a ≤ gt l i ∧ gt l i ≤ b := by
  rw [gt_lt hi]
  exact h _ (List.getElem_mem hi)
theorem chB_b {c : Int} (h : chB c = true) : 0 ≤ c ∧ c ≤ 65535 := by simp [chB, inB] at h; omega
end Go.Ab
