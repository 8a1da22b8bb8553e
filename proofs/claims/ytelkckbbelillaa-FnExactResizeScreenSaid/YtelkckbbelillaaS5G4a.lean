/- What the functions of the program answer, for all arguments that the theorems name as conditions. -/
import Derived.Test.YtelkckbbelillaaS5G3
namespace Go.Ab
set_option linter.unusedSimpArgs false
set_option linter.unusedVariables false
set_option maxHeartbeats 4000000

/-! ## Screens -/
abbrev eI6 : Enc Int := eI .i64
structure ScrT where
  g : GridT
  row : Int
  col : Int
  late : Bool
  attr : Int
  top : Int
  bot : Int
  org : Bool
  wrp : Bool
  ins : Bool
  tabs : List Bool
  sr : Int
  sc : Int
  sa : Int
  sets : List Int
  cs : Int
  lc : Int
abbrev scrT (s : ScrT) (a b c d : Value) (rest : List Value) : List Value := .int .i64 s.g.r :: .int .i64 s.g.w :: a :: b :: .int .i64 s.row :: .int .i64 s.col :: .bool s.late :: .int .i64 s.attr :: .int .i64 s.top :: .int .i64 s.bot :: .bool s.org :: .bool s.wrp :: .bool s.ins :: c :: .int .i64 s.sr :: .int .i64 s.sc :: .int .i64 s.sa :: d :: .int .i64 s.cs :: .int .i64 s.lc :: rest
abbrev scrL (s : ScrT) (a b c d : Value) : List Value := scrT s a b c d []
abbrev scrV (s : ScrT) : Value := .agg (scrL s (frS eC s.g.cs) (frS eC s.g.bk) (frS eB s.tabs) (frS eI6 s.sets)).toArray
abbrev scrP (s : ScrT) (rest : List Value) : Value := roP (scrT s (frS eC s.g.cs) (frS eC s.g.bk) (frS eB s.tabs) (frS eI6 s.sets) rest)
def ScrT.small (s : ScrT) : Prop := s.g.small ∧ s.tabs.length < 1000000000 ∧ s.sets.length < 1000000000

end Go.Ab
