/-
  No cell of these rows narrows 'for every input' (looked for: loops, veiled, ifaces, maps, wideKeys, modest, calm, conditions, laid).
  DERIVED. THE GIVEN ROWS OF THIS SEAT. 6 by the template 'for every input the law returns true; each argument reads behind the call as it read before'; 0 by the template 'total and deterministic' (their statements: YtnmjgjedkdmefaaTotals.lean).
  GIVEN WITH THE SEED: the statements are not yours to turn. If you find one false, say at which input.
  Laid BY PROGRAM, IN A SANDBOX (cutbox-rows.mjs): the forced cells as the released guide's own fill.sh prints them over the translation c4bebf2bc87dd566… (all of the seat's roots in one cut). By AI agents, Wed Nov 11 2026. No macro, syntax, notation, axiom, sorry.
-/
import Derived.Test.YtnmjgjedkdmefaaChecked
import GoSem.Claim
import GoSem.ClaimJoined
import GoSem.ClaimMapViews
import Derived.JoinedTies
import Derived.KernelRfl
namespace Go.Proofs.Ytnmjgjedkdmefaa
/- THE CELL 'sum', in the pinned program and in every row, IS THE sha256 OF THE DUMP (.gsa) THAT YtnmjgjedkdmefaaProg.lean LOADS. Nothing in Lean hashes anything: it is a label: what it is worth is what the hold of that sum in a sandbox is worth. -/
noncomputable def Try.pinned : Pinned := { name := "ytnmjgjedkdmefaa", sum := "c4bebf2bc87dd56601b781e57ccaec3f0a60164fda7f2bca8aaa47f0998f81a4", checked := Try.checked }
namespace Rows
def none {H : Type} : Left H := { results := [], args := [] }

/-- 'laws.FnExactFeedLine': WHATEVER THE INPUT: true; the input reads as it did. -/
def fnExactFeedLineSpec : ChangeSpec := { name := "fnExactFeedLine", fn := fun _ => fun
  | [d1, d2, d3] => { results := [.lit (.bool true)], args := [d1, d2, d3] }
  | _ => none }
def fnExactFeedLineRow : OpenClaim := { program := "ytnmjgjedkdmefaa", sum := "c4bebf2bc87dd56601b781e57ccaec3f0a60164fda7f2bca8aaa47f0998f81a4", func := "loop.example/g00523/laws.FnExactFeedLine", spec := "fnExactFeedLine", unfollowed := true, recurses := true, apart := false }
def FnExactFeedLineSaid : Prop := fnExactFeedLineRow.holds Try.pinned (OpenSpec.ofChange fnExactFeedLineSpec)

/-- ITS FALSE NEIGHBOUR: 'it returns false'. Refute it at one input. -/
def fnExactFeedLineWrong : ChangeSpec := { name := "fnExactFeedLine", fn := fun _ => fun
  | [d1, d2, d3] => { results := [.lit (.bool false)], args := [d1, d2, d3] }
  | _ => none }
def FnExactFeedLineWrongFalsely : Prop := fnExactFeedLineRow.holds Try.pinned (OpenSpec.ofChange fnExactFeedLineWrong)

/-- 'laws.FnExactFeedMany': WHATEVER THE INPUT: true; the input reads as it did. -/
def fnExactFeedManySpec : ChangeSpec := { name := "fnExactFeedMany", fn := fun _ => fun
  | [d1, d2, d3] => { results := [.lit (.bool true)], args := [d1, d2, d3] }
  | _ => none }
def fnExactFeedManyRow : OpenClaim := { program := "ytnmjgjedkdmefaa", sum := "c4bebf2bc87dd56601b781e57ccaec3f0a60164fda7f2bca8aaa47f0998f81a4", func := "loop.example/g00523/laws.FnExactFeedMany", spec := "fnExactFeedMany", unfollowed := true, recurses := true, apart := false }
def FnExactFeedManySaid : Prop := fnExactFeedManyRow.holds Try.pinned (OpenSpec.ofChange fnExactFeedManySpec)

/-- ITS FALSE NEIGHBOUR: 'it returns false'. Refute it at one input. -/
def fnExactFeedManyWrong : ChangeSpec := { name := "fnExactFeedMany", fn := fun _ => fun
  | [d1, d2, d3] => { results := [.lit (.bool false)], args := [d1, d2, d3] }
  | _ => none }
def FnExactFeedManyWrongFalsely : Prop := fnExactFeedManyRow.holds Try.pinned (OpenSpec.ofChange fnExactFeedManyWrong)

/-- 'laws.FnFeeds': WHATEVER THE INPUT: true; the input reads as it did. -/
def fnFeedsSpec : ChangeSpec := { name := "fnFeeds", fn := fun _ => fun
  | [d] => { results := [.lit (.bool true)], args := [d] }
  | _ => none }
def fnFeedsRow : OpenClaim := { program := "ytnmjgjedkdmefaa", sum := "c4bebf2bc87dd56601b781e57ccaec3f0a60164fda7f2bca8aaa47f0998f81a4", func := "loop.example/g00523/laws.FnFeeds", spec := "fnFeeds", unfollowed := true, recurses := true, apart := false }
def FnFeedsSaid : Prop := fnFeedsRow.holds Try.pinned (OpenSpec.ofChange fnFeedsSpec)

/-- ITS FALSE NEIGHBOUR: 'it returns false'. Refute it at one input. -/
def fnFeedsWrong : ChangeSpec := { name := "fnFeeds", fn := fun _ => fun
  | [d] => { results := [.lit (.bool false)], args := [d] }
  | _ => none }
def FnFeedsWrongFalsely : Prop := fnFeedsRow.holds Try.pinned (OpenSpec.ofChange fnFeedsWrong)

/-- 'laws.FnExactVtFault': WHATEVER THE INPUT: true; the input reads as it did. -/
def fnExactVtFaultSpec : ChangeSpec := { name := "fnExactVtFault", fn := fun _ => fun
  | [d] => { results := [.lit (.bool true)], args := [d] }
  | _ => none }
def fnExactVtFaultRow : OpenClaim := { program := "ytnmjgjedkdmefaa", sum := "c4bebf2bc87dd56601b781e57ccaec3f0a60164fda7f2bca8aaa47f0998f81a4", func := "loop.example/g00523/laws.FnExactVtFault", spec := "fnExactVtFault", unfollowed := true, recurses := true, apart := false }
def FnExactVtFaultSaid : Prop := fnExactVtFaultRow.holds Try.pinned (OpenSpec.ofChange fnExactVtFaultSpec)

/-- ITS FALSE NEIGHBOUR: 'it returns false'. Refute it at one input. -/
def fnExactVtFaultWrong : ChangeSpec := { name := "fnExactVtFault", fn := fun _ => fun
  | [d] => { results := [.lit (.bool false)], args := [d] }
  | _ => none }
def FnExactVtFaultWrongFalsely : Prop := fnExactVtFaultRow.holds Try.pinned (OpenSpec.ofChange fnExactVtFaultWrong)

/-- 'laws.FnExactNewConsole': WHATEVER THE INPUT: true; the input reads as it did. -/
def fnExactNewConsoleSpec : ChangeSpec := { name := "fnExactNewConsole", fn := fun _ => fun
  | [d1, d2] => { results := [.lit (.bool true)], args := [d1, d2] }
  | _ => none }
def fnExactNewConsoleRow : OpenClaim := { program := "ytnmjgjedkdmefaa", sum := "c4bebf2bc87dd56601b781e57ccaec3f0a60164fda7f2bca8aaa47f0998f81a4", func := "loop.example/g00523/laws.FnExactNewConsole", spec := "fnExactNewConsole", apart := false }
def FnExactNewConsoleSaid : Prop := fnExactNewConsoleRow.holds Try.pinned (OpenSpec.ofChange fnExactNewConsoleSpec)

/-- ITS FALSE NEIGHBOUR: 'it returns false'. Refute it at one input. -/
def fnExactNewConsoleWrong : ChangeSpec := { name := "fnExactNewConsole", fn := fun _ => fun
  | [d1, d2] => { results := [.lit (.bool false)], args := [d1, d2] }
  | _ => none }
def FnExactNewConsoleWrongFalsely : Prop := fnExactNewConsoleRow.holds Try.pinned (OpenSpec.ofChange fnExactNewConsoleWrong)

/-- 'laws.FnExactSameConsoles': WHATEVER THE INPUT: true; the input reads as it did. -/
def fnExactSameConsolesSpec : ChangeSpec := { name := "fnExactSameConsoles", fn := fun _ => fun
  | [d1, d2] => { results := [.lit (.bool true)], args := [d1, d2] }
  | _ => none }
def fnExactSameConsolesRow : OpenClaim := { program := "ytnmjgjedkdmefaa", sum := "c4bebf2bc87dd56601b781e57ccaec3f0a60164fda7f2bca8aaa47f0998f81a4", func := "loop.example/g00523/laws.FnExactSameConsoles", spec := "fnExactSameConsoles", unfollowed := true, recurses := true, apart := false }
def FnExactSameConsolesSaid : Prop := fnExactSameConsolesRow.holds Try.pinned (OpenSpec.ofChange fnExactSameConsolesSpec)

/-- ITS FALSE NEIGHBOUR: 'it returns false'. Refute it at one input. -/
def fnExactSameConsolesWrong : ChangeSpec := { name := "fnExactSameConsoles", fn := fun _ => fun
  | [d1, d2] => { results := [.lit (.bool false)], args := [d1, d2] }
  | _ => none }
def FnExactSameConsolesWrongFalsely : Prop := fnExactSameConsolesRow.holds Try.pinned (OpenSpec.ofChange fnExactSameConsolesWrong)

/- THE SECOND FORM. 'bulk': how many values and letters a reading holds, each counted each time it is reached (what is shared counts as often as it is met; a slice's spare places count too). A statement '..UptoSaid' is the law's where the arguments, and the package variables that the reading takes, are together of bulk at most 1048576: NARROWER than '..Said'. Prove '..Said' where nothing that the law and all that it calls make is longer than what came in: it says more and counts as full. Else prove '..UptoSaid'. A law counts once. -/
mutual
def uptoBulk {H : Type} : DataW H → Nat
  | .lit (.string bytes) => bytes.length + 1
  | .lit _ => 1
  | .nil => 1
  | .ptr d => uptoBulk d + 1
  | .slice elems spare => uptoBulkAll elems + uptoBulkAll spare + 1
  | .agg parts => uptoBulkAll parts + 1
  | .iface _ d => uptoBulk d + 1
  | .map entries => uptoBulkEntries entries + 1
  | .held _ => 1
def uptoBulkAll {H : Type} : List (DataW H) → Nat
  | [] => 0
  | d :: r => uptoBulk d + uptoBulkAll r
def uptoBulkEntries {H : Type} : List (Lit × DataW H) → Nat
  | [] => 0
  | x :: r => uptoBulkEntry x + uptoBulkEntries r
def uptoBulkEntry {H : Type} : Lit × DataW H → Nat
  | (.string bytes, d) => bytes.length + uptoBulk d + 1
  | (_, d) => uptoBulk d + 1
 end
def uptoSmall : (H : Type) → List (DataW H) → Bool := fun _ ds => decide (uptoBulkAll ds ≤ 1048576)
def OpenSpec.upto (s : _root_.Go.ChangeSpec) : _root_.Go.OpenSpec := { _root_.Go.OpenSpec.ofChange s with cond := some uptoSmall }

/-- 'laws.FnExactFeedLine', WHERE WHAT IT READS IS OF BULK AT MOST 1048576: true; the input reads as it did. -/
def fnExactFeedLineUptoRow : OpenClaim := { program := "ytnmjgjedkdmefaa", sum := "c4bebf2bc87dd56601b781e57ccaec3f0a60164fda7f2bca8aaa47f0998f81a4", func := "loop.example/g00523/laws.FnExactFeedLine", spec := "fnExactFeedLine", unfollowed := true, recurses := true, apart := false, narrowed := true }
def FnExactFeedLineUptoSaid : Prop := fnExactFeedLineUptoRow.holds Try.pinned (OpenSpec.upto fnExactFeedLineSpec)

/-- 'laws.FnExactFeedMany', WHERE WHAT IT READS IS OF BULK AT MOST 1048576: true; the input reads as it did. -/
def fnExactFeedManyUptoRow : OpenClaim := { program := "ytnmjgjedkdmefaa", sum := "c4bebf2bc87dd56601b781e57ccaec3f0a60164fda7f2bca8aaa47f0998f81a4", func := "loop.example/g00523/laws.FnExactFeedMany", spec := "fnExactFeedMany", unfollowed := true, recurses := true, apart := false, narrowed := true }
def FnExactFeedManyUptoSaid : Prop := fnExactFeedManyUptoRow.holds Try.pinned (OpenSpec.upto fnExactFeedManySpec)

/-- 'laws.FnFeeds', WHERE WHAT IT READS IS OF BULK AT MOST 1048576: true; the input reads as it did. -/
def fnFeedsUptoRow : OpenClaim := { program := "ytnmjgjedkdmefaa", sum := "c4bebf2bc87dd56601b781e57ccaec3f0a60164fda7f2bca8aaa47f0998f81a4", func := "loop.example/g00523/laws.FnFeeds", spec := "fnFeeds", unfollowed := true, recurses := true, apart := false, narrowed := true }
def FnFeedsUptoSaid : Prop := fnFeedsUptoRow.holds Try.pinned (OpenSpec.upto fnFeedsSpec)

/-- 'laws.FnExactVtFault', WHERE WHAT IT READS IS OF BULK AT MOST 1048576: true; the input reads as it did. -/
def fnExactVtFaultUptoRow : OpenClaim := { program := "ytnmjgjedkdmefaa", sum := "c4bebf2bc87dd56601b781e57ccaec3f0a60164fda7f2bca8aaa47f0998f81a4", func := "loop.example/g00523/laws.FnExactVtFault", spec := "fnExactVtFault", unfollowed := true, recurses := true, apart := false, narrowed := true }
def FnExactVtFaultUptoSaid : Prop := fnExactVtFaultUptoRow.holds Try.pinned (OpenSpec.upto fnExactVtFaultSpec)

/-- 'laws.FnExactNewConsole', WHERE WHAT IT READS IS OF BULK AT MOST 1048576: true; the input reads as it did. -/
def fnExactNewConsoleUptoRow : OpenClaim := { program := "ytnmjgjedkdmefaa", sum := "c4bebf2bc87dd56601b781e57ccaec3f0a60164fda7f2bca8aaa47f0998f81a4", func := "loop.example/g00523/laws.FnExactNewConsole", spec := "fnExactNewConsole", apart := false, narrowed := true }
def FnExactNewConsoleUptoSaid : Prop := fnExactNewConsoleUptoRow.holds Try.pinned (OpenSpec.upto fnExactNewConsoleSpec)

/-- 'laws.FnExactSameConsoles', WHERE WHAT IT READS IS OF BULK AT MOST 1048576: true; the input reads as it did. -/
def fnExactSameConsolesUptoRow : OpenClaim := { program := "ytnmjgjedkdmefaa", sum := "c4bebf2bc87dd56601b781e57ccaec3f0a60164fda7f2bca8aaa47f0998f81a4", func := "loop.example/g00523/laws.FnExactSameConsoles", spec := "fnExactSameConsoles", unfollowed := true, recurses := true, apart := false, narrowed := true }
def FnExactSameConsolesUptoSaid : Prop := fnExactSameConsolesUptoRow.holds Try.pinned (OpenSpec.upto fnExactSameConsolesSpec)

end Rows
end Go.Proofs.Ytnmjgjedkdmefaa
