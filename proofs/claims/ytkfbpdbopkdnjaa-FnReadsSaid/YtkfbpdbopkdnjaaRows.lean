/-
  No cell of these rows narrows 'for every input' (looked for: loops, veiled, ifaces, maps, wideKeys, modest, calm, conditions, laid).
  DERIVED. THE GIVEN ROWS OF THIS SEAT. 9 by the template 'for every input the law returns true; each argument reads behind the call as it read before'; 0 by the template 'total and deterministic' (their statements: YtkfbpdbopkdnjaaTotals.lean).
  GIVEN WITH THE SEED: the statements are not yours to turn. If you find one false, say at which input.
  Laid BY PROGRAM, IN A SANDBOX (cutbox-rows.mjs): the forced cells as the released guide's own fill.sh prints them over the translation e7d671dde1595793… (all of the seat's roots in one cut). By AI agents, Wed Nov 11 2026. No macro, syntax, notation, axiom, sorry.
-/
import Derived.Test.YtkfbpdbopkdnjaaChecked
import GoSem.Claim
import GoSem.ClaimJoined
import GoSem.ClaimMapViews
import Derived.JoinedTies
import Derived.KernelRfl
namespace Go.Proofs.Ytkfbpdbopkdnjaa
/- THE CELL 'sum', in the pinned program and in every row, IS THE sha256 OF THE DUMP (.gsa) THAT YtkfbpdbopkdnjaaProg.lean LOADS. Nothing in Lean hashes anything: it is a label: what it is worth is what the hold of that sum in a sandbox is worth. -/
noncomputable def Try.pinned : Pinned := { name := "ytkfbpdbopkdnjaa", sum := "e7d671dde1595793cbf1bb89eccb541d0b7a85e492b80a52b37b66b16187bc6d", checked := Try.checked }
namespace Rows
def none {H : Type} : Left H := { results := [], args := [] }

/-- 'laws.FnChars': WHATEVER THE INPUT: true; the input reads as it did. -/
def fnCharsSpec : ChangeSpec := { name := "fnChars", fn := fun _ => fun
  | [d] => { results := [.lit (.bool true)], args := [d] }
  | _ => none }
def fnCharsRow : OpenClaim := { program := "ytkfbpdbopkdnjaa", sum := "e7d671dde1595793cbf1bb89eccb541d0b7a85e492b80a52b37b66b16187bc6d", func := "loop.example/g00523/laws.FnChars", spec := "fnChars", apart := false }
def FnCharsSaid : Prop := fnCharsRow.holds Try.pinned (OpenSpec.ofChange fnCharsSpec)

/-- ITS FALSE NEIGHBOUR: 'it returns false'. Refute it at one input. -/
def fnCharsWrong : ChangeSpec := { name := "fnChars", fn := fun _ => fun
  | [d] => { results := [.lit (.bool false)], args := [d] }
  | _ => none }
def FnCharsWrongFalsely : Prop := fnCharsRow.holds Try.pinned (OpenSpec.ofChange fnCharsWrong)

/-- 'laws.FnAborts': WHATEVER THE INPUT: true; the input reads as it did. -/
def fnAbortsSpec : ChangeSpec := { name := "fnAborts", fn := fun _ => fun
  | [d] => { results := [.lit (.bool true)], args := [d] }
  | _ => none }
def fnAbortsRow : OpenClaim := { program := "ytkfbpdbopkdnjaa", sum := "e7d671dde1595793cbf1bb89eccb541d0b7a85e492b80a52b37b66b16187bc6d", func := "loop.example/g00523/laws.FnAborts", spec := "fnAborts", unfollowed := true, recurses := true, apart := false }
def FnAbortsSaid : Prop := fnAbortsRow.holds Try.pinned (OpenSpec.ofChange fnAbortsSpec)

/-- ITS FALSE NEIGHBOUR: 'it returns false'. Refute it at one input. -/
def fnAbortsWrong : ChangeSpec := { name := "fnAborts", fn := fun _ => fun
  | [d] => { results := [.lit (.bool false)], args := [d] }
  | _ => none }
def FnAbortsWrongFalsely : Prop := fnAbortsRow.holds Try.pinned (OpenSpec.ofChange fnAbortsWrong)

/-- 'laws.FnExactStepParser': WHATEVER THE INPUT: true; the input reads as it did. -/
def fnExactStepParserSpec : ChangeSpec := { name := "fnExactStepParser", fn := fun _ => fun
  | [d1, d2] => { results := [.lit (.bool true)], args := [d1, d2] }
  | _ => none }
def fnExactStepParserRow : OpenClaim := { program := "ytkfbpdbopkdnjaa", sum := "e7d671dde1595793cbf1bb89eccb541d0b7a85e492b80a52b37b66b16187bc6d", func := "loop.example/g00523/laws.FnExactStepParser", spec := "fnExactStepParser", unfollowed := true, recurses := true, apart := false }
def FnExactStepParserSaid : Prop := fnExactStepParserRow.holds Try.pinned (OpenSpec.ofChange fnExactStepParserSpec)

/-- ITS FALSE NEIGHBOUR: 'it returns false'. Refute it at one input. -/
def fnExactStepParserWrong : ChangeSpec := { name := "fnExactStepParser", fn := fun _ => fun
  | [d1, d2] => { results := [.lit (.bool false)], args := [d1, d2] }
  | _ => none }
def FnExactStepParserWrongFalsely : Prop := fnExactStepParserRow.holds Try.pinned (OpenSpec.ofChange fnExactStepParserWrong)

/-- 'laws.FnExactParseMany': WHATEVER THE INPUT: true; the input reads as it did. -/
def fnExactParseManySpec : ChangeSpec := { name := "fnExactParseMany", fn := fun _ => fun
  | [d1, d2] => { results := [.lit (.bool true)], args := [d1, d2] }
  | _ => none }
def fnExactParseManyRow : OpenClaim := { program := "ytkfbpdbopkdnjaa", sum := "e7d671dde1595793cbf1bb89eccb541d0b7a85e492b80a52b37b66b16187bc6d", func := "loop.example/g00523/laws.FnExactParseMany", spec := "fnExactParseMany", unfollowed := true, recurses := true, apart := false }
def FnExactParseManySaid : Prop := fnExactParseManyRow.holds Try.pinned (OpenSpec.ofChange fnExactParseManySpec)

/-- ITS FALSE NEIGHBOUR: 'it returns false'. Refute it at one input. -/
def fnExactParseManyWrong : ChangeSpec := { name := "fnExactParseMany", fn := fun _ => fun
  | [d1, d2] => { results := [.lit (.bool false)], args := [d1, d2] }
  | _ => none }
def FnExactParseManyWrongFalsely : Prop := fnExactParseManyRow.holds Try.pinned (OpenSpec.ofChange fnExactParseManyWrong)

/-- 'laws.FnExactLiftKey': WHATEVER THE INPUT: true; the input reads as it did. -/
def fnExactLiftKeySpec : ChangeSpec := { name := "fnExactLiftKey", fn := fun _ => fun
  | [d1, d2] => { results := [.lit (.bool true)], args := [d1, d2] }
  | _ => none }
def fnExactLiftKeyRow : OpenClaim := { program := "ytkfbpdbopkdnjaa", sum := "e7d671dde1595793cbf1bb89eccb541d0b7a85e492b80a52b37b66b16187bc6d", func := "loop.example/g00523/laws.FnExactLiftKey", spec := "fnExactLiftKey", unfollowed := true, recurses := true, apart := false }
def FnExactLiftKeySaid : Prop := fnExactLiftKeyRow.holds Try.pinned (OpenSpec.ofChange fnExactLiftKeySpec)

/-- ITS FALSE NEIGHBOUR: 'it returns false'. Refute it at one input. -/
def fnExactLiftKeyWrong : ChangeSpec := { name := "fnExactLiftKey", fn := fun _ => fun
  | [d1, d2] => { results := [.lit (.bool false)], args := [d1, d2] }
  | _ => none }
def FnExactLiftKeyWrongFalsely : Prop := fnExactLiftKeyRow.holds Try.pinned (OpenSpec.ofChange fnExactLiftKeyWrong)

/-- 'laws.FnExactReadBy': WHATEVER THE INPUT: true; the input reads as it did. -/
def fnExactReadBySpec : ChangeSpec := { name := "fnExactReadBy", fn := fun _ => fun
  | [d1, d2, d3] => { results := [.lit (.bool true)], args := [d1, d2, d3] }
  | _ => none }
def fnExactReadByRow : OpenClaim := { program := "ytkfbpdbopkdnjaa", sum := "e7d671dde1595793cbf1bb89eccb541d0b7a85e492b80a52b37b66b16187bc6d", func := "loop.example/g00523/laws.FnExactReadBy", spec := "fnExactReadBy", apart := false }
def FnExactReadBySaid : Prop := fnExactReadByRow.holds Try.pinned (OpenSpec.ofChange fnExactReadBySpec)

/-- ITS FALSE NEIGHBOUR: 'it returns false'. Refute it at one input. -/
def fnExactReadByWrong : ChangeSpec := { name := "fnExactReadBy", fn := fun _ => fun
  | [d1, d2, d3] => { results := [.lit (.bool false)], args := [d1, d2, d3] }
  | _ => none }
def FnExactReadByWrongFalsely : Prop := fnExactReadByRow.holds Try.pinned (OpenSpec.ofChange fnExactReadByWrong)

/-- 'laws.FnExactEventsFor': WHATEVER THE INPUT: true; the input reads as it did. -/
def fnExactEventsForSpec : ChangeSpec := { name := "fnExactEventsFor", fn := fun _ => fun
  | [d1, d2] => { results := [.lit (.bool true)], args := [d1, d2] }
  | _ => none }
def fnExactEventsForRow : OpenClaim := { program := "ytkfbpdbopkdnjaa", sum := "e7d671dde1595793cbf1bb89eccb541d0b7a85e492b80a52b37b66b16187bc6d", func := "loop.example/g00523/laws.FnExactEventsFor", spec := "fnExactEventsFor", apart := false }
def FnExactEventsForSaid : Prop := fnExactEventsForRow.holds Try.pinned (OpenSpec.ofChange fnExactEventsForSpec)

/-- ITS FALSE NEIGHBOUR: 'it returns false'. Refute it at one input. -/
def fnExactEventsForWrong : ChangeSpec := { name := "fnExactEventsFor", fn := fun _ => fun
  | [d1, d2] => { results := [.lit (.bool false)], args := [d1, d2] }
  | _ => none }
def FnExactEventsForWrongFalsely : Prop := fnExactEventsForRow.holds Try.pinned (OpenSpec.ofChange fnExactEventsForWrong)

/-- 'laws.FnExactReadLine': WHATEVER THE INPUT: true; the input reads as it did. -/
def fnExactReadLineSpec : ChangeSpec := { name := "fnExactReadLine", fn := fun _ => fun
  | [d1, d2, d3] => { results := [.lit (.bool true)], args := [d1, d2, d3] }
  | _ => none }
def fnExactReadLineRow : OpenClaim := { program := "ytkfbpdbopkdnjaa", sum := "e7d671dde1595793cbf1bb89eccb541d0b7a85e492b80a52b37b66b16187bc6d", func := "loop.example/g00523/laws.FnExactReadLine", spec := "fnExactReadLine", apart := false }
def FnExactReadLineSaid : Prop := fnExactReadLineRow.holds Try.pinned (OpenSpec.ofChange fnExactReadLineSpec)

/-- ITS FALSE NEIGHBOUR: 'it returns false'. Refute it at one input. -/
def fnExactReadLineWrong : ChangeSpec := { name := "fnExactReadLine", fn := fun _ => fun
  | [d1, d2, d3] => { results := [.lit (.bool false)], args := [d1, d2, d3] }
  | _ => none }
def FnExactReadLineWrongFalsely : Prop := fnExactReadLineRow.holds Try.pinned (OpenSpec.ofChange fnExactReadLineWrong)

/-- 'laws.FnReads': WHATEVER THE INPUT: true; the input reads as it did. -/
def fnReadsSpec : ChangeSpec := { name := "fnReads", fn := fun _ => fun
  | [d] => { results := [.lit (.bool true)], args := [d] }
  | _ => none }
def fnReadsRow : OpenClaim := { program := "ytkfbpdbopkdnjaa", sum := "e7d671dde1595793cbf1bb89eccb541d0b7a85e492b80a52b37b66b16187bc6d", func := "loop.example/g00523/laws.FnReads", spec := "fnReads", apart := false }
def FnReadsSaid : Prop := fnReadsRow.holds Try.pinned (OpenSpec.ofChange fnReadsSpec)

/-- ITS FALSE NEIGHBOUR: 'it returns false'. Refute it at one input. -/
def fnReadsWrong : ChangeSpec := { name := "fnReads", fn := fun _ => fun
  | [d] => { results := [.lit (.bool false)], args := [d] }
  | _ => none }
def FnReadsWrongFalsely : Prop := fnReadsRow.holds Try.pinned (OpenSpec.ofChange fnReadsWrong)

/- THE SECOND FORM. 'bulk': how many values and letters a reading holds, each counted each time it is reached (what is shared counts as often as it is met; a slice's spare places count too). A statement '..UptoSaid' is the law's where the arguments, and the package variables that the reading takes, are together of bulk at most 1048576: NARROWER than '..Said'. Prove '..Said' where nothing that the law and all that it calls make is longer than what came in: it says more and counts as full. Else prove '..UptoSaid'. A law counts once. -/
mutual
def uptoBulk {H : Type} : DataW H → Nat
  | .lit (.string bytes) => bytes.length + 1
  | .lit _ => 1
  | .nil => 1
  | .ptr d => uptoBulk d + 1
  | .slice elems spare => uptoBulkAll elems + uptoBulkAll spare + 1
  | .agg parts => uptoBulkAll parts + 1
  | .iface _ d => uptoBulk d + 1
  | .map entries => uptoBulkEntries entries + 1
  | .held _ => 1
def uptoBulkAll {H : Type} : List (DataW H) → Nat
  | [] => 0
  | d :: r => uptoBulk d + uptoBulkAll r
def uptoBulkEntries {H : Type} : List (Lit × DataW H) → Nat
  | [] => 0
  | x :: r => uptoBulkEntry x + uptoBulkEntries r
def uptoBulkEntry {H : Type} : Lit × DataW H → Nat
  | (.string bytes, d) => bytes.length + uptoBulk d + 1
  | (_, d) => uptoBulk d + 1
 end
def uptoSmall : (H : Type) → List (DataW H) → Bool := fun _ ds => decide (uptoBulkAll ds ≤ 1048576)
def OpenSpec.upto (s : _root_.Go.ChangeSpec) : _root_.Go.OpenSpec := { _root_.Go.OpenSpec.ofChange s with cond := some uptoSmall }

/-- 'laws.FnChars', WHERE WHAT IT READS IS OF BULK AT MOST 1048576: true; the input reads as it did. -/
def fnCharsUptoRow : OpenClaim := { program := "ytkfbpdbopkdnjaa", sum := "e7d671dde1595793cbf1bb89eccb541d0b7a85e492b80a52b37b66b16187bc6d", func := "loop.example/g00523/laws.FnChars", spec := "fnChars", apart := false, narrowed := true }
def FnCharsUptoSaid : Prop := fnCharsUptoRow.holds Try.pinned (OpenSpec.upto fnCharsSpec)

/-- 'laws.FnAborts', WHERE WHAT IT READS IS OF BULK AT MOST 1048576: true; the input reads as it did. -/
def fnAbortsUptoRow : OpenClaim := { program := "ytkfbpdbopkdnjaa", sum := "e7d671dde1595793cbf1bb89eccb541d0b7a85e492b80a52b37b66b16187bc6d", func := "loop.example/g00523/laws.FnAborts", spec := "fnAborts", unfollowed := true, recurses := true, apart := false, narrowed := true }
def FnAbortsUptoSaid : Prop := fnAbortsUptoRow.holds Try.pinned (OpenSpec.upto fnAbortsSpec)

/-- 'laws.FnExactStepParser', WHERE WHAT IT READS IS OF BULK AT MOST 1048576: true; the input reads as it did. -/
def fnExactStepParserUptoRow : OpenClaim := { program := "ytkfbpdbopkdnjaa", sum := "e7d671dde1595793cbf1bb89eccb541d0b7a85e492b80a52b37b66b16187bc6d", func := "loop.example/g00523/laws.FnExactStepParser", spec := "fnExactStepParser", unfollowed := true, recurses := true, apart := false, narrowed := true }
def FnExactStepParserUptoSaid : Prop := fnExactStepParserUptoRow.holds Try.pinned (OpenSpec.upto fnExactStepParserSpec)

/-- 'laws.FnExactParseMany', WHERE WHAT IT READS IS OF BULK AT MOST 1048576: true; the input reads as it did. -/
def fnExactParseManyUptoRow : OpenClaim := { program := "ytkfbpdbopkdnjaa", sum := "e7d671dde1595793cbf1bb89eccb541d0b7a85e492b80a52b37b66b16187bc6d", func := "loop.example/g00523/laws.FnExactParseMany", spec := "fnExactParseMany", unfollowed := true, recurses := true, apart := false, narrowed := true }
def FnExactParseManyUptoSaid : Prop := fnExactParseManyUptoRow.holds Try.pinned (OpenSpec.upto fnExactParseManySpec)

/-- 'laws.FnExactLiftKey', WHERE WHAT IT READS IS OF BULK AT MOST 1048576: true; the input reads as it did. -/
def fnExactLiftKeyUptoRow : OpenClaim := { program := "ytkfbpdbopkdnjaa", sum := "e7d671dde1595793cbf1bb89eccb541d0b7a85e492b80a52b37b66b16187bc6d", func := "loop.example/g00523/laws.FnExactLiftKey", spec := "fnExactLiftKey", unfollowed := true, recurses := true, apart := false, narrowed := true }
def FnExactLiftKeyUptoSaid : Prop := fnExactLiftKeyUptoRow.holds Try.pinned (OpenSpec.upto fnExactLiftKeySpec)

/-- 'laws.FnExactReadBy', WHERE WHAT IT READS IS OF BULK AT MOST 1048576: true; the input reads as it did. -/
def fnExactReadByUptoRow : OpenClaim := { program := "ytkfbpdbopkdnjaa", sum := "e7d671dde1595793cbf1bb89eccb541d0b7a85e492b80a52b37b66b16187bc6d", func := "loop.example/g00523/laws.FnExactReadBy", spec := "fnExactReadBy", apart := false, narrowed := true }
def FnExactReadByUptoSaid : Prop := fnExactReadByUptoRow.holds Try.pinned (OpenSpec.upto fnExactReadBySpec)

/-- 'laws.FnExactEventsFor', WHERE WHAT IT READS IS OF BULK AT MOST 1048576: true; the input reads as it did. -/
def fnExactEventsForUptoRow : OpenClaim := { program := "ytkfbpdbopkdnjaa", sum := "e7d671dde1595793cbf1bb89eccb541d0b7a85e492b80a52b37b66b16187bc6d", func := "loop.example/g00523/laws.FnExactEventsFor", spec := "fnExactEventsFor", apart := false, narrowed := true }
def FnExactEventsForUptoSaid : Prop := fnExactEventsForUptoRow.holds Try.pinned (OpenSpec.upto fnExactEventsForSpec)

/-- 'laws.FnExactReadLine', WHERE WHAT IT READS IS OF BULK AT MOST 1048576: true; the input reads as it did. -/
def fnExactReadLineUptoRow : OpenClaim := { program := "ytkfbpdbopkdnjaa", sum := "e7d671dde1595793cbf1bb89eccb541d0b7a85e492b80a52b37b66b16187bc6d", func := "loop.example/g00523/laws.FnExactReadLine", spec := "fnExactReadLine", apart := false, narrowed := true }
def FnExactReadLineUptoSaid : Prop := fnExactReadLineUptoRow.holds Try.pinned (OpenSpec.upto fnExactReadLineSpec)

/-- 'laws.FnReads', WHERE WHAT IT READS IS OF BULK AT MOST 1048576: true; the input reads as it did. -/
def fnReadsUptoRow : OpenClaim := { program := "ytkfbpdbopkdnjaa", sum := "e7d671dde1595793cbf1bb89eccb541d0b7a85e492b80a52b37b66b16187bc6d", func := "loop.example/g00523/laws.FnReads", spec := "fnReads", apart := false, narrowed := true }
def FnReadsUptoSaid : Prop := fnReadsUptoRow.holds Try.pinned (OpenSpec.upto fnReadsSpec)

end Rows
end Go.Proofs.Ytkfbpdbopkdnjaa
