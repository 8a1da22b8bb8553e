/- What the functions of the program answer, for all arguments that the theorems name as conditions. -/
import Derived.Test.YtnmjgjedkdmefaaS4G5
namespace Go.Ab
set_option linter.unusedSimpArgs false
set_option linter.unusedVariables false
set_option maxHeartbeats 4000000

/-! ## Decoders, parsers, terminals -/
structure DecT where
  l : Int
  o : Int
  v : Int
abbrev decV (d : DecT) : Value := .agg #[.int .i64 d.l, .int .i64 d.o, .int .i64 d.v]
abbrev decP (d : DecT) (rest : List Value) : Value := roP (.int .i64 d.l :: .int .i64 d.o :: .int .i64 d.v :: rest)
structure ParT where
  k : Int
  s : Int
  lead : Bool
  ns : List Int
abbrev parV (p : ParT) : Value := .agg #[.int .i64 p.k, .int .i64 p.s, .bool p.lead, frS eI6 p.ns]
abbrev parO (p : ParT) (a : Nat) : Value := .agg #[.int .i64 p.k, .int .i64 p.s, .bool p.lead, slO a p.ns.length]
abbrev parP (p : ParT) (rest : List Value) : Value := roP (.int .i64 p.k :: .int .i64 p.s :: .bool p.lead :: frS eI6 p.ns :: rest)

end Go.Ab
