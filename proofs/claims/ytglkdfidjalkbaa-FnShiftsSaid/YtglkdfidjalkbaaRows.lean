/-
  No cell of these rows narrows 'for every input' (looked for: loops, veiled, ifaces, maps, wideKeys, modest, calm, conditions, laid).
  DERIVED. THE GIVEN ROWS OF THIS SEAT. 10 by the template 'for every input the law returns true; each argument reads behind the call as it read before'; 0 by the template 'total and deterministic' (their statements: YtglkdfidjalkbaaTotals.lean).
  GIVEN WITH THE SEED: the statements are not yours to turn. If you find one false, say at which input.
  Laid BY PROGRAM, IN A SANDBOX (cutbox-rows.mjs): the forced cells as the released guide's own fill.sh prints them over the translation 5d4020693251aa49… (all of the seat's roots in one cut). By AI agents, Wed Nov 11 2026. No macro, syntax, notation, axiom, sorry.
-/
import Derived.Test.YtglkdfidjalkbaaChecked
import GoSem.Claim
import GoSem.ClaimJoined
import GoSem.ClaimMapViews
import Derived.JoinedTies
import Derived.KernelRfl
namespace Go.Proofs.Ytglkdfidjalkbaa
/- THE CELL 'sum', in the pinned program and in every row, IS THE sha256 OF THE DUMP (.gsa) THAT YtglkdfidjalkbaaProg.lean LOADS. Nothing in Lean hashes anything: it is a label: what it is worth is what the hold of that sum in a sandbox is worth. -/
noncomputable def Try.pinned : Pinned := { name := "ytglkdfidjalkbaa", sum := "5d4020693251aa4958ec540012bc971cfa702b758847a926a73f3b8562e2b26e", checked := Try.checked }
namespace Rows
def none {H : Type} : Left H := { results := [], args := [] }

/-- 'laws.FnExactPutCell': WHATEVER THE INPUT: true; the input reads as it did. -/
def fnExactPutCellSpec : ChangeSpec := { name := "fnExactPutCell", fn := fun _ => fun
  | [d1, d2, d3, d4] => { results := [.lit (.bool true)], args := [d1, d2, d3, d4] }
  | _ => none }
def fnExactPutCellRow : OpenClaim := { program := "ytglkdfidjalkbaa", sum := "5d4020693251aa4958ec540012bc971cfa702b758847a926a73f3b8562e2b26e", func := "loop.example/g00523/laws.FnExactPutCell", spec := "fnExactPutCell", unfollowed := true, recurses := true, apart := false }
def FnExactPutCellSaid : Prop := fnExactPutCellRow.holds Try.pinned (OpenSpec.ofChange fnExactPutCellSpec)

/-- ITS FALSE NEIGHBOUR: 'it returns false'. Refute it at one input. -/
def fnExactPutCellWrong : ChangeSpec := { name := "fnExactPutCell", fn := fun _ => fun
  | [d1, d2, d3, d4] => { results := [.lit (.bool false)], args := [d1, d2, d3, d4] }
  | _ => none }
def FnExactPutCellWrongFalsely : Prop := fnExactPutCellRow.holds Try.pinned (OpenSpec.ofChange fnExactPutCellWrong)

/-- 'laws.FnCells': WHATEVER THE INPUT: true; the input reads as it did. -/
def fnCellsSpec : ChangeSpec := { name := "fnCells", fn := fun _ => fun
  | [d] => { results := [.lit (.bool true)], args := [d] }
  | _ => none }
def fnCellsRow : OpenClaim := { program := "ytglkdfidjalkbaa", sum := "5d4020693251aa4958ec540012bc971cfa702b758847a926a73f3b8562e2b26e", func := "loop.example/g00523/laws.FnCells", spec := "fnCells", unfollowed := true, recurses := true, apart := false }
def FnCellsSaid : Prop := fnCellsRow.holds Try.pinned (OpenSpec.ofChange fnCellsSpec)

/-- ITS FALSE NEIGHBOUR: 'it returns false'. Refute it at one input. -/
def fnCellsWrong : ChangeSpec := { name := "fnCells", fn := fun _ => fun
  | [d] => { results := [.lit (.bool false)], args := [d] }
  | _ => none }
def FnCellsWrongFalsely : Prop := fnCellsRow.holds Try.pinned (OpenSpec.ofChange fnCellsWrong)

/-- 'laws.FnExactEraseCells': WHATEVER THE INPUT: true; the input reads as it did. -/
def fnExactEraseCellsSpec : ChangeSpec := { name := "fnExactEraseCells", fn := fun _ => fun
  | [d1, d2, d3, d4] => { results := [.lit (.bool true)], args := [d1, d2, d3, d4] }
  | _ => none }
def fnExactEraseCellsRow : OpenClaim := { program := "ytglkdfidjalkbaa", sum := "5d4020693251aa4958ec540012bc971cfa702b758847a926a73f3b8562e2b26e", func := "loop.example/g00523/laws.FnExactEraseCells", spec := "fnExactEraseCells", unfollowed := true, recurses := true, apart := false }
def FnExactEraseCellsSaid : Prop := fnExactEraseCellsRow.holds Try.pinned (OpenSpec.ofChange fnExactEraseCellsSpec)

/-- ITS FALSE NEIGHBOUR: 'it returns false'. Refute it at one input. -/
def fnExactEraseCellsWrong : ChangeSpec := { name := "fnExactEraseCells", fn := fun _ => fun
  | [d1, d2, d3, d4] => { results := [.lit (.bool false)], args := [d1, d2, d3, d4] }
  | _ => none }
def FnExactEraseCellsWrongFalsely : Prop := fnExactEraseCellsRow.holds Try.pinned (OpenSpec.ofChange fnExactEraseCellsWrong)

/-- 'laws.FnScrolls': WHATEVER THE INPUT: true; the input reads as it did. -/
def fnScrollsSpec : ChangeSpec := { name := "fnScrolls", fn := fun _ => fun
  | [d] => { results := [.lit (.bool true)], args := [d] }
  | _ => none }
def fnScrollsRow : OpenClaim := { program := "ytglkdfidjalkbaa", sum := "5d4020693251aa4958ec540012bc971cfa702b758847a926a73f3b8562e2b26e", func := "loop.example/g00523/laws.FnScrolls", spec := "fnScrolls", unfollowed := true, recurses := true, apart := false }
def FnScrollsSaid : Prop := fnScrollsRow.holds Try.pinned (OpenSpec.ofChange fnScrollsSpec)

/-- ITS FALSE NEIGHBOUR: 'it returns false'. Refute it at one input. -/
def fnScrollsWrong : ChangeSpec := { name := "fnScrolls", fn := fun _ => fun
  | [d] => { results := [.lit (.bool false)], args := [d] }
  | _ => none }
def FnScrollsWrongFalsely : Prop := fnScrollsRow.holds Try.pinned (OpenSpec.ofChange fnScrollsWrong)

/-- 'laws.FnExactShiftCells': WHATEVER THE INPUT: true; the input reads as it did. -/
def fnExactShiftCellsSpec : ChangeSpec := { name := "fnExactShiftCells", fn := fun _ => fun
  | [d1, d2, d3, d4, d5] => { results := [.lit (.bool true)], args := [d1, d2, d3, d4, d5] }
  | _ => none }
def fnExactShiftCellsRow : OpenClaim := { program := "ytglkdfidjalkbaa", sum := "5d4020693251aa4958ec540012bc971cfa702b758847a926a73f3b8562e2b26e", func := "loop.example/g00523/laws.FnExactShiftCells", spec := "fnExactShiftCells", unfollowed := true, recurses := true, apart := false }
def FnExactShiftCellsSaid : Prop := fnExactShiftCellsRow.holds Try.pinned (OpenSpec.ofChange fnExactShiftCellsSpec)

/-- ITS FALSE NEIGHBOUR: 'it returns false'. Refute it at one input. -/
def fnExactShiftCellsWrong : ChangeSpec := { name := "fnExactShiftCells", fn := fun _ => fun
  | [d1, d2, d3, d4, d5] => { results := [.lit (.bool false)], args := [d1, d2, d3, d4, d5] }
  | _ => none }
def FnExactShiftCellsWrongFalsely : Prop := fnExactShiftCellsRow.holds Try.pinned (OpenSpec.ofChange fnExactShiftCellsWrong)

/-- 'laws.FnExactResizeGrid': WHATEVER THE INPUT: true; the input reads as it did. -/
def fnExactResizeGridSpec : ChangeSpec := { name := "fnExactResizeGrid", fn := fun _ => fun
  | [d1, d2, d3] => { results := [.lit (.bool true)], args := [d1, d2, d3] }
  | _ => none }
def fnExactResizeGridRow : OpenClaim := { program := "ytglkdfidjalkbaa", sum := "5d4020693251aa4958ec540012bc971cfa702b758847a926a73f3b8562e2b26e", func := "loop.example/g00523/laws.FnExactResizeGrid", spec := "fnExactResizeGrid", unfollowed := true, recurses := true, apart := false }
def FnExactResizeGridSaid : Prop := fnExactResizeGridRow.holds Try.pinned (OpenSpec.ofChange fnExactResizeGridSpec)

/-- ITS FALSE NEIGHBOUR: 'it returns false'. Refute it at one input. -/
def fnExactResizeGridWrong : ChangeSpec := { name := "fnExactResizeGrid", fn := fun _ => fun
  | [d1, d2, d3] => { results := [.lit (.bool false)], args := [d1, d2, d3] }
  | _ => none }
def FnExactResizeGridWrongFalsely : Prop := fnExactResizeGridRow.holds Try.pinned (OpenSpec.ofChange fnExactResizeGridWrong)

/-- 'laws.FnShifts': WHATEVER THE INPUT: true; the input reads as it did. -/
def fnShiftsSpec : ChangeSpec := { name := "fnShifts", fn := fun _ => fun
  | [d] => { results := [.lit (.bool true)], args := [d] }
  | _ => none }
def fnShiftsRow : OpenClaim := { program := "ytglkdfidjalkbaa", sum := "5d4020693251aa4958ec540012bc971cfa702b758847a926a73f3b8562e2b26e", func := "loop.example/g00523/laws.FnShifts", spec := "fnShifts", unfollowed := true, recurses := true, apart := false }
def FnShiftsSaid : Prop := fnShiftsRow.holds Try.pinned (OpenSpec.ofChange fnShiftsSpec)

/-- ITS FALSE NEIGHBOUR: 'it returns false'. Refute it at one input. -/
def fnShiftsWrong : ChangeSpec := { name := "fnShifts", fn := fun _ => fun
  | [d] => { results := [.lit (.bool false)], args := [d] }
  | _ => none }
def FnShiftsWrongFalsely : Prop := fnShiftsRow.holds Try.pinned (OpenSpec.ofChange fnShiftsWrong)

/-- 'laws.FnExactScrollGrid': WHATEVER THE INPUT: true; the input reads as it did. -/
def fnExactScrollGridSpec : ChangeSpec := { name := "fnExactScrollGrid", fn := fun _ => fun
  | [d1, d2, d3, d4, d5] => { results := [.lit (.bool true)], args := [d1, d2, d3, d4, d5] }
  | _ => none }
def fnExactScrollGridRow : OpenClaim := { program := "ytglkdfidjalkbaa", sum := "5d4020693251aa4958ec540012bc971cfa702b758847a926a73f3b8562e2b26e", func := "loop.example/g00523/laws.FnExactScrollGrid", spec := "fnExactScrollGrid", unfollowed := true, recurses := true, apart := false }
def FnExactScrollGridSaid : Prop := fnExactScrollGridRow.holds Try.pinned (OpenSpec.ofChange fnExactScrollGridSpec)

/-- ITS FALSE NEIGHBOUR: 'it returns false'. Refute it at one input. -/
def fnExactScrollGridWrong : ChangeSpec := { name := "fnExactScrollGrid", fn := fun _ => fun
  | [d1, d2, d3, d4, d5] => { results := [.lit (.bool false)], args := [d1, d2, d3, d4, d5] }
  | _ => none }
def FnExactScrollGridWrongFalsely : Prop := fnExactScrollGridRow.holds Try.pinned (OpenSpec.ofChange fnExactScrollGridWrong)

/-- 'laws.FnExactScreenFault': WHATEVER THE INPUT: true; the input reads as it did. -/
def fnExactScreenFaultSpec : ChangeSpec := { name := "fnExactScreenFault", fn := fun _ => fun
  | [d] => { results := [.lit (.bool true)], args := [d] }
  | _ => none }
def fnExactScreenFaultRow : OpenClaim := { program := "ytglkdfidjalkbaa", sum := "5d4020693251aa4958ec540012bc971cfa702b758847a926a73f3b8562e2b26e", func := "loop.example/g00523/laws.FnExactScreenFault", spec := "fnExactScreenFault", unfollowed := true, recurses := true, apart := false }
def FnExactScreenFaultSaid : Prop := fnExactScreenFaultRow.holds Try.pinned (OpenSpec.ofChange fnExactScreenFaultSpec)

/-- ITS FALSE NEIGHBOUR: 'it returns false'. Refute it at one input. -/
def fnExactScreenFaultWrong : ChangeSpec := { name := "fnExactScreenFault", fn := fun _ => fun
  | [d] => { results := [.lit (.bool false)], args := [d] }
  | _ => none }
def FnExactScreenFaultWrongFalsely : Prop := fnExactScreenFaultRow.holds Try.pinned (OpenSpec.ofChange fnExactScreenFaultWrong)

/-- 'laws.FnExactRowText': WHATEVER THE INPUT: true; the input reads as it did. -/
def fnExactRowTextSpec : ChangeSpec := { name := "fnExactRowText", fn := fun _ => fun
  | [d1, d2] => { results := [.lit (.bool true)], args := [d1, d2] }
  | _ => none }
def fnExactRowTextRow : OpenClaim := { program := "ytglkdfidjalkbaa", sum := "5d4020693251aa4958ec540012bc971cfa702b758847a926a73f3b8562e2b26e", func := "loop.example/g00523/laws.FnExactRowText", spec := "fnExactRowText", unfollowed := true, recurses := true, apart := false }
def FnExactRowTextSaid : Prop := fnExactRowTextRow.holds Try.pinned (OpenSpec.ofChange fnExactRowTextSpec)

/-- ITS FALSE NEIGHBOUR: 'it returns false'. Refute it at one input. -/
def fnExactRowTextWrong : ChangeSpec := { name := "fnExactRowText", fn := fun _ => fun
  | [d1, d2] => { results := [.lit (.bool false)], args := [d1, d2] }
  | _ => none }
def FnExactRowTextWrongFalsely : Prop := fnExactRowTextRow.holds Try.pinned (OpenSpec.ofChange fnExactRowTextWrong)

/- THE SECOND FORM. 'bulk': how many values and letters a reading holds, each counted each time it is reached (what is shared counts as often as it is met; a slice's spare places count too). A statement '..UptoSaid' is the law's where the arguments, and the package variables that the reading takes, are together of bulk at most 1048576: NARROWER than '..Said'. Prove '..Said' where nothing that the law and all that it calls make is longer than what came in: it says more and counts as full. Else prove '..UptoSaid'. A law counts once. -/
mutual
def uptoBulk {H : Type} : DataW H → Nat
  | .lit (.string bytes) => bytes.length + 1
  | .lit _ => 1
  | .nil => 1
  | .ptr d => uptoBulk d + 1
  | .slice elems spare => uptoBulkAll elems + uptoBulkAll spare + 1
  | .agg parts => uptoBulkAll parts + 1
  | .iface _ d => uptoBulk d + 1
  | .map entries => uptoBulkEntries entries + 1
  | .held _ => 1
def uptoBulkAll {H : Type} : List (DataW H) → Nat
  | [] => 0
  | d :: r => uptoBulk d + uptoBulkAll r
def uptoBulkEntries {H : Type} : List (Lit × DataW H) → Nat
  | [] => 0
  | x :: r => uptoBulkEntry x + uptoBulkEntries r
def uptoBulkEntry {H : Type} : Lit × DataW H → Nat
  | (.string bytes, d) => bytes.length + uptoBulk d + 1
  | (_, d) => uptoBulk d + 1
 end
def uptoSmall : (H : Type) → List (DataW H) → Bool := fun _ ds => decide (uptoBulkAll ds ≤ 1048576)
def OpenSpec.upto (s : _root_.Go.ChangeSpec) : _root_.Go.OpenSpec := { _root_.Go.OpenSpec.ofChange s with cond := some uptoSmall }

/-- 'laws.FnExactPutCell', WHERE WHAT IT READS IS OF BULK AT MOST 1048576: true; the input reads as it did. -/
def fnExactPutCellUptoRow : OpenClaim := { program := "ytglkdfidjalkbaa", sum := "5d4020693251aa4958ec540012bc971cfa702b758847a926a73f3b8562e2b26e", func := "loop.example/g00523/laws.FnExactPutCell", spec := "fnExactPutCell", unfollowed := true, recurses := true, apart := false, narrowed := true }
def FnExactPutCellUptoSaid : Prop := fnExactPutCellUptoRow.holds Try.pinned (OpenSpec.upto fnExactPutCellSpec)

/-- 'laws.FnCells', WHERE WHAT IT READS IS OF BULK AT MOST 1048576: true; the input reads as it did. -/
def fnCellsUptoRow : OpenClaim := { program := "ytglkdfidjalkbaa", sum := "5d4020693251aa4958ec540012bc971cfa702b758847a926a73f3b8562e2b26e", func := "loop.example/g00523/laws.FnCells", spec := "fnCells", unfollowed := true, recurses := true, apart := false, narrowed := true }
def FnCellsUptoSaid : Prop := fnCellsUptoRow.holds Try.pinned (OpenSpec.upto fnCellsSpec)

/-- 'laws.FnExactEraseCells', WHERE WHAT IT READS IS OF BULK AT MOST 1048576: true; the input reads as it did. -/
def fnExactEraseCellsUptoRow : OpenClaim := { program := "ytglkdfidjalkbaa", sum := "5d4020693251aa4958ec540012bc971cfa702b758847a926a73f3b8562e2b26e", func := "loop.example/g00523/laws.FnExactEraseCells", spec := "fnExactEraseCells", unfollowed := true, recurses := true, apart := false, narrowed := true }
def FnExactEraseCellsUptoSaid : Prop := fnExactEraseCellsUptoRow.holds Try.pinned (OpenSpec.upto fnExactEraseCellsSpec)

/-- 'laws.FnScrolls', WHERE WHAT IT READS IS OF BULK AT MOST 1048576: true; the input reads as it did. -/
def fnScrollsUptoRow : OpenClaim := { program := "ytglkdfidjalkbaa", sum := "5d4020693251aa4958ec540012bc971cfa702b758847a926a73f3b8562e2b26e", func := "loop.example/g00523/laws.FnScrolls", spec := "fnScrolls", unfollowed := true, recurses := true, apart := false, narrowed := true }
def FnScrollsUptoSaid : Prop := fnScrollsUptoRow.holds Try.pinned (OpenSpec.upto fnScrollsSpec)

/-- 'laws.FnExactShiftCells', WHERE WHAT IT READS IS OF BULK AT MOST 1048576: true; the input reads as it did. -/
def fnExactShiftCellsUptoRow : OpenClaim := { program := "ytglkdfidjalkbaa", sum := "5d4020693251aa4958ec540012bc971cfa702b758847a926a73f3b8562e2b26e", func := "loop.example/g00523/laws.FnExactShiftCells", spec := "fnExactShiftCells", unfollowed := true, recurses := true, apart := false, narrowed := true }
def FnExactShiftCellsUptoSaid : Prop := fnExactShiftCellsUptoRow.holds Try.pinned (OpenSpec.upto fnExactShiftCellsSpec)

/-- 'laws.FnExactResizeGrid', WHERE WHAT IT READS IS OF BULK AT MOST 1048576: true; the input reads as it did. -/
def fnExactResizeGridUptoRow : OpenClaim := { program := "ytglkdfidjalkbaa", sum := "5d4020693251aa4958ec540012bc971cfa702b758847a926a73f3b8562e2b26e", func := "loop.example/g00523/laws.FnExactResizeGrid", spec := "fnExactResizeGrid", unfollowed := true, recurses := true, apart := false, narrowed := true }
def FnExactResizeGridUptoSaid : Prop := fnExactResizeGridUptoRow.holds Try.pinned (OpenSpec.upto fnExactResizeGridSpec)

/-- 'laws.FnShifts', WHERE WHAT IT READS IS OF BULK AT MOST 1048576: true; the input reads as it did. -/
def fnShiftsUptoRow : OpenClaim := { program := "ytglkdfidjalkbaa", sum := "5d4020693251aa4958ec540012bc971cfa702b758847a926a73f3b8562e2b26e", func := "loop.example/g00523/laws.FnShifts", spec := "fnShifts", unfollowed := true, recurses := true, apart := false, narrowed := true }
def FnShiftsUptoSaid : Prop := fnShiftsUptoRow.holds Try.pinned (OpenSpec.upto fnShiftsSpec)

/-- 'laws.FnExactScrollGrid', WHERE WHAT IT READS IS OF BULK AT MOST 1048576: true; the input reads as it did. -/
def fnExactScrollGridUptoRow : OpenClaim := { program := "ytglkdfidjalkbaa", sum := "5d4020693251aa4958ec540012bc971cfa702b758847a926a73f3b8562e2b26e", func := "loop.example/g00523/laws.FnExactScrollGrid", spec := "fnExactScrollGrid", unfollowed := true, recurses := true, apart := false, narrowed := true }
def FnExactScrollGridUptoSaid : Prop := fnExactScrollGridUptoRow.holds Try.pinned (OpenSpec.upto fnExactScrollGridSpec)

/-- 'laws.FnExactScreenFault', WHERE WHAT IT READS IS OF BULK AT MOST 1048576: true; the input reads as it did. -/
def fnExactScreenFaultUptoRow : OpenClaim := { program := "ytglkdfidjalkbaa", sum := "5d4020693251aa4958ec540012bc971cfa702b758847a926a73f3b8562e2b26e", func := "loop.example/g00523/laws.FnExactScreenFault", spec := "fnExactScreenFault", unfollowed := true, recurses := true, apart := false, narrowed := true }
def FnExactScreenFaultUptoSaid : Prop := fnExactScreenFaultUptoRow.holds Try.pinned (OpenSpec.upto fnExactScreenFaultSpec)

/-- 'laws.FnExactRowText', WHERE WHAT IT READS IS OF BULK AT MOST 1048576: true; the input reads as it did. -/
def fnExactRowTextUptoRow : OpenClaim := { program := "ytglkdfidjalkbaa", sum := "5d4020693251aa4958ec540012bc971cfa702b758847a926a73f3b8562e2b26e", func := "loop.example/g00523/laws.FnExactRowText", spec := "fnExactRowText", unfollowed := true, recurses := true, apart := false, narrowed := true }
def FnExactRowTextUptoSaid : Prop := fnExactRowTextUptoRow.holds Try.pinned (OpenSpec.upto fnExactRowTextSpec)

end Rows
end Go.Proofs.Ytglkdfidjalkbaa
