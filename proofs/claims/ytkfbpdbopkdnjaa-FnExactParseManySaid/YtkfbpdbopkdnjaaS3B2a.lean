/- What the functions of the program answer, for all arguments that the theorems name as conditions. -/
import Derived.Test.YtkfbpdbopkdnjaaS3B1
import Derived.Test.YtkfbpdbopkdnjaaS3B1j
import Derived.Test.YtkfbpdbopkdnjaaS3B1i
namespace Go.Ab
set_option linter.unusedSimpArgs false
set_option linter.unusedVariables false
set_option maxHeartbeats 8000000

/-! ## Parsers -/
structure ParT where
  k : Int
  s : Int
  lead : Bool
  ns : List Int
abbrev parV (p : ParT) : Value := .agg #[.int .i64 p.k, .int .i64 p.s, .bool p.lead, frS eI6 p.ns]
abbrev parO (p : ParT) (a : Nat) : Value := .agg #[.int .i64 p.k, .int .i64 p.s, .bool p.lead, slO a p.ns.length]
abbrev parP (p : ParT) (rest : List Value) : Value := roP (.int .i64 p.k :: .int .i64 p.s :: .bool p.lead :: frS eI6 p.ns :: rest)
def allP (l : List Int) : Bool := l.all fun x => inB x 0 999
theorem allP_cons (x : Int) (l : List Int) : allP (x :: l) = (inB x 0 999 && allP l) := rfl
def prmF (l : List Int) : Int := if inB l.length 1 6 = true then (if allP l = true then 0 else 3) else 2
def emP (p : ParT) : Bool := decide (p.ns.length = 0) && !p.lead
def parF (p : ParT) : Int := if p.k = 2 then (if p.s = 0 then prmF p.ns else 1) else if p.k = 3 then (if emP p = true then (if inB p.s 1 2 = true then 0 else 3) else 1) else if p.k = 0 ∨ p.k = 1 then (if emP p = true ∧ p.s = 0 then 0 else 1) else 1
end Go.Ab
