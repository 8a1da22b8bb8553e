/-
  No cell of these rows narrows 'for every input' (looked for: loops, veiled, ifaces, maps, wideKeys, modest, calm, conditions, laid).
  DERIVED. THE GIVEN ROWS OF THIS SEAT. 12 by the template 'for every input the law returns true; each argument reads behind the call as it read before'; 0 by the template 'total and deterministic' (their statements: YtkoahogalplhhaaTotals.lean).
  GIVEN WITH THE SEED: the statements are not yours to turn. If you find one false, say at which input.
  Laid BY PROGRAM, IN A SANDBOX (cutbox-rows.mjs): the forced cells as the released guide's own fill.sh prints them over the translation 05cd4cff1d20d14a… (all of the seat's roots in one cut). By AI agents, Wed Nov 11 2026. No macro, syntax, notation, axiom, sorry.
-/
import Derived.Test.YtkoahogalplhhaaChecked
import GoSem.Claim
import GoSem.ClaimJoined
import GoSem.ClaimMapViews
import Derived.JoinedTies
import Derived.KernelRfl
namespace Go.Proofs.Ytkoahogalplhhaa
/- THE CELL 'sum', in the pinned program and in every row, IS THE sha256 OF THE DUMP (.gsa) THAT YtkoahogalplhhaaProg.lean LOADS. Nothing in Lean hashes anything: it is a label: what it is worth is what the hold of that sum in a sandbox is worth. -/
noncomputable def Try.pinned : Pinned := { name := "ytkoahogalplhhaa", sum := "05cd4cff1d20d14a16ecb466a2973fd3a04722b0fa146dced7fa614cd8621a19", checked := Try.checked }
namespace Rows
def none {H : Type} : Left H := { results := [], args := [] }

/-- 'laws.FnExactFeedsIn': WHATEVER THE INPUT: true; the input reads as it did. -/
def fnExactFeedsInSpec : ChangeSpec := { name := "fnExactFeedsIn", fn := fun _ => fun
  | [d] => { results := [.lit (.bool true)], args := [d] }
  | _ => none }
def fnExactFeedsInRow : OpenClaim := { program := "ytkoahogalplhhaa", sum := "05cd4cff1d20d14a16ecb466a2973fd3a04722b0fa146dced7fa614cd8621a19", func := "loop.example/g00523/laws.FnExactFeedsIn", spec := "fnExactFeedsIn", apart := false }
def FnExactFeedsInSaid : Prop := fnExactFeedsInRow.holds Try.pinned (OpenSpec.ofChange fnExactFeedsInSpec)

/-- ITS FALSE NEIGHBOUR: 'it returns false'. Refute it at one input. -/
def fnExactFeedsInWrong : ChangeSpec := { name := "fnExactFeedsIn", fn := fun _ => fun
  | [d] => { results := [.lit (.bool false)], args := [d] }
  | _ => none }
def FnExactFeedsInWrongFalsely : Prop := fnExactFeedsInRow.holds Try.pinned (OpenSpec.ofChange fnExactFeedsInWrong)

/-- 'laws.FnExactSameLines': WHATEVER THE INPUT: true; the input reads as it did. -/
def fnExactSameLinesSpec : ChangeSpec := { name := "fnExactSameLines", fn := fun _ => fun
  | [d1, d2] => { results := [.lit (.bool true)], args := [d1, d2] }
  | _ => none }
def fnExactSameLinesRow : OpenClaim := { program := "ytkoahogalplhhaa", sum := "05cd4cff1d20d14a16ecb466a2973fd3a04722b0fa146dced7fa614cd8621a19", func := "loop.example/g00523/laws.FnExactSameLines", spec := "fnExactSameLines", unfollowed := true, recurses := true, apart := false }
def FnExactSameLinesSaid : Prop := fnExactSameLinesRow.holds Try.pinned (OpenSpec.ofChange fnExactSameLinesSpec)

/-- ITS FALSE NEIGHBOUR: 'it returns false'. Refute it at one input. -/
def fnExactSameLinesWrong : ChangeSpec := { name := "fnExactSameLines", fn := fun _ => fun
  | [d1, d2] => { results := [.lit (.bool false)], args := [d1, d2] }
  | _ => none }
def FnExactSameLinesWrongFalsely : Prop := fnExactSameLinesRow.holds Try.pinned (OpenSpec.ofChange fnExactSameLinesWrong)

/-- 'laws.FnExactLineFault': WHATEVER THE INPUT: true; the input reads as it did. -/
def fnExactLineFaultSpec : ChangeSpec := { name := "fnExactLineFault", fn := fun _ => fun
  | [d] => { results := [.lit (.bool true)], args := [d] }
  | _ => none }
def fnExactLineFaultRow : OpenClaim := { program := "ytkoahogalplhhaa", sum := "05cd4cff1d20d14a16ecb466a2973fd3a04722b0fa146dced7fa614cd8621a19", func := "loop.example/g00523/laws.FnExactLineFault", spec := "fnExactLineFault", apart := false }
def FnExactLineFaultSaid : Prop := fnExactLineFaultRow.holds Try.pinned (OpenSpec.ofChange fnExactLineFaultSpec)

/-- ITS FALSE NEIGHBOUR: 'it returns false'. Refute it at one input. -/
def fnExactLineFaultWrong : ChangeSpec := { name := "fnExactLineFault", fn := fun _ => fun
  | [d] => { results := [.lit (.bool false)], args := [d] }
  | _ => none }
def FnExactLineFaultWrongFalsely : Prop := fnExactLineFaultRow.holds Try.pinned (OpenSpec.ofChange fnExactLineFaultWrong)

/-- 'laws.FnExactPlainBytes': WHATEVER THE INPUT: true; the input reads as it did. -/
def fnExactPlainBytesSpec : ChangeSpec := { name := "fnExactPlainBytes", fn := fun _ => fun
  | [d1, d2] => { results := [.lit (.bool true)], args := [d1, d2] }
  | _ => none }
def fnExactPlainBytesRow : OpenClaim := { program := "ytkoahogalplhhaa", sum := "05cd4cff1d20d14a16ecb466a2973fd3a04722b0fa146dced7fa614cd8621a19", func := "loop.example/g00523/laws.FnExactPlainBytes", spec := "fnExactPlainBytes", apart := false }
def FnExactPlainBytesSaid : Prop := fnExactPlainBytesRow.holds Try.pinned (OpenSpec.ofChange fnExactPlainBytesSpec)

/-- ITS FALSE NEIGHBOUR: 'it returns false'. Refute it at one input. -/
def fnExactPlainBytesWrong : ChangeSpec := { name := "fnExactPlainBytes", fn := fun _ => fun
  | [d1, d2] => { results := [.lit (.bool false)], args := [d1, d2] }
  | _ => none }
def FnExactPlainBytesWrongFalsely : Prop := fnExactPlainBytesRow.holds Try.pinned (OpenSpec.ofChange fnExactPlainBytesWrong)

/-- 'laws.FnExactEventFault': WHATEVER THE INPUT: true; the input reads as it did. -/
def fnExactEventFaultSpec : ChangeSpec := { name := "fnExactEventFault", fn := fun _ => fun
  | [d] => { results := [.lit (.bool true)], args := [d] }
  | _ => none }
def fnExactEventFaultRow : OpenClaim := { program := "ytkoahogalplhhaa", sum := "05cd4cff1d20d14a16ecb466a2973fd3a04722b0fa146dced7fa614cd8621a19", func := "loop.example/g00523/laws.FnExactEventFault", spec := "fnExactEventFault", apart := false }
def FnExactEventFaultSaid : Prop := fnExactEventFaultRow.holds Try.pinned (OpenSpec.ofChange fnExactEventFaultSpec)

/-- ITS FALSE NEIGHBOUR: 'it returns false'. Refute it at one input. -/
def fnExactEventFaultWrong : ChangeSpec := { name := "fnExactEventFault", fn := fun _ => fun
  | [d] => { results := [.lit (.bool false)], args := [d] }
  | _ => none }
def FnExactEventFaultWrongFalsely : Prop := fnExactEventFaultRow.holds Try.pinned (OpenSpec.ofChange fnExactEventFaultWrong)

/-- 'laws.FnExactQueueSize': WHATEVER THE INPUT: true; the input reads as it did. -/
def fnExactQueueSizeSpec : ChangeSpec := { name := "fnExactQueueSize", fn := fun _ => fun
  | [d] => { results := [.lit (.bool true)], args := [d] }
  | _ => none }
def fnExactQueueSizeRow : OpenClaim := { program := "ytkoahogalplhhaa", sum := "05cd4cff1d20d14a16ecb466a2973fd3a04722b0fa146dced7fa614cd8621a19", func := "loop.example/g00523/laws.FnExactQueueSize", spec := "fnExactQueueSize", apart := false }
def FnExactQueueSizeSaid : Prop := fnExactQueueSizeRow.holds Try.pinned (OpenSpec.ofChange fnExactQueueSizeSpec)

/-- ITS FALSE NEIGHBOUR: 'it returns false'. Refute it at one input. -/
def fnExactQueueSizeWrong : ChangeSpec := { name := "fnExactQueueSize", fn := fun _ => fun
  | [d] => { results := [.lit (.bool false)], args := [d] }
  | _ => none }
def FnExactQueueSizeWrongFalsely : Prop := fnExactQueueSizeRow.holds Try.pinned (OpenSpec.ofChange fnExactQueueSizeWrong)

/-- 'laws.FnExactPostBytes': WHATEVER THE INPUT: true; the input reads as it did. -/
def fnExactPostBytesSpec : ChangeSpec := { name := "fnExactPostBytes", fn := fun _ => fun
  | [d1, d2] => { results := [.lit (.bool true)], args := [d1, d2] }
  | _ => none }
def fnExactPostBytesRow : OpenClaim := { program := "ytkoahogalplhhaa", sum := "05cd4cff1d20d14a16ecb466a2973fd3a04722b0fa146dced7fa614cd8621a19", func := "loop.example/g00523/laws.FnExactPostBytes", spec := "fnExactPostBytes", apart := false }
def FnExactPostBytesSaid : Prop := fnExactPostBytesRow.holds Try.pinned (OpenSpec.ofChange fnExactPostBytesSpec)

/-- ITS FALSE NEIGHBOUR: 'it returns false'. Refute it at one input. -/
def fnExactPostBytesWrong : ChangeSpec := { name := "fnExactPostBytes", fn := fun _ => fun
  | [d1, d2] => { results := [.lit (.bool false)], args := [d1, d2] }
  | _ => none }
def FnExactPostBytesWrongFalsely : Prop := fnExactPostBytesRow.holds Try.pinned (OpenSpec.ofChange fnExactPostBytesWrong)

/-- 'laws.FnExactStepDecoder': WHATEVER THE INPUT: true; the input reads as it did. -/
def fnExactStepDecoderSpec : ChangeSpec := { name := "fnExactStepDecoder", fn := fun _ => fun
  | [d1, d2] => { results := [.lit (.bool true)], args := [d1, d2] }
  | _ => none }
def fnExactStepDecoderRow : OpenClaim := { program := "ytkoahogalplhhaa", sum := "05cd4cff1d20d14a16ecb466a2973fd3a04722b0fa146dced7fa614cd8621a19", func := "loop.example/g00523/laws.FnExactStepDecoder", spec := "fnExactStepDecoder", apart := false }
def FnExactStepDecoderSaid : Prop := fnExactStepDecoderRow.holds Try.pinned (OpenSpec.ofChange fnExactStepDecoderSpec)

/-- ITS FALSE NEIGHBOUR: 'it returns false'. Refute it at one input. -/
def fnExactStepDecoderWrong : ChangeSpec := { name := "fnExactStepDecoder", fn := fun _ => fun
  | [d1, d2] => { results := [.lit (.bool false)], args := [d1, d2] }
  | _ => none }
def FnExactStepDecoderWrongFalsely : Prop := fnExactStepDecoderRow.holds Try.pinned (OpenSpec.ofChange fnExactStepDecoderWrong)

/-- 'laws.FnPosts': WHATEVER THE INPUT: true; the input reads as it did. -/
def fnPostsSpec : ChangeSpec := { name := "fnPosts", fn := fun _ => fun
  | [d] => { results := [.lit (.bool true)], args := [d] }
  | _ => none }
def fnPostsRow : OpenClaim := { program := "ytkoahogalplhhaa", sum := "05cd4cff1d20d14a16ecb466a2973fd3a04722b0fa146dced7fa614cd8621a19", func := "loop.example/g00523/laws.FnPosts", spec := "fnPosts", apart := false }
def FnPostsSaid : Prop := fnPostsRow.holds Try.pinned (OpenSpec.ofChange fnPostsSpec)

/-- ITS FALSE NEIGHBOUR: 'it returns false'. Refute it at one input. -/
def fnPostsWrong : ChangeSpec := { name := "fnPosts", fn := fun _ => fun
  | [d] => { results := [.lit (.bool false)], args := [d] }
  | _ => none }
def FnPostsWrongFalsely : Prop := fnPostsRow.holds Try.pinned (OpenSpec.ofChange fnPostsWrong)

/-- 'laws.FnBytes': WHATEVER THE INPUT: true; the input reads as it did. -/
def fnBytesSpec : ChangeSpec := { name := "fnBytes", fn := fun _ => fun
  | [d] => { results := [.lit (.bool true)], args := [d] }
  | _ => none }
def fnBytesRow : OpenClaim := { program := "ytkoahogalplhhaa", sum := "05cd4cff1d20d14a16ecb466a2973fd3a04722b0fa146dced7fa614cd8621a19", func := "loop.example/g00523/laws.FnBytes", spec := "fnBytes", apart := false }
def FnBytesSaid : Prop := fnBytesRow.holds Try.pinned (OpenSpec.ofChange fnBytesSpec)

/-- ITS FALSE NEIGHBOUR: 'it returns false'. Refute it at one input. -/
def fnBytesWrong : ChangeSpec := { name := "fnBytes", fn := fun _ => fun
  | [d] => { results := [.lit (.bool false)], args := [d] }
  | _ => none }
def FnBytesWrongFalsely : Prop := fnBytesRow.holds Try.pinned (OpenSpec.ofChange fnBytesWrong)

/-- 'laws.FnEnds': WHATEVER THE INPUT: true; the input reads as it did. -/
def fnEndsSpec : ChangeSpec := { name := "fnEnds", fn := fun _ => fun
  | [d] => { results := [.lit (.bool true)], args := [d] }
  | _ => none }
def fnEndsRow : OpenClaim := { program := "ytkoahogalplhhaa", sum := "05cd4cff1d20d14a16ecb466a2973fd3a04722b0fa146dced7fa614cd8621a19", func := "loop.example/g00523/laws.FnEnds", spec := "fnEnds", unfollowed := true, recurses := true, apart := false }
def FnEndsSaid : Prop := fnEndsRow.holds Try.pinned (OpenSpec.ofChange fnEndsSpec)

/-- ITS FALSE NEIGHBOUR: 'it returns false'. Refute it at one input. -/
def fnEndsWrong : ChangeSpec := { name := "fnEnds", fn := fun _ => fun
  | [d] => { results := [.lit (.bool false)], args := [d] }
  | _ => none }
def FnEndsWrongFalsely : Prop := fnEndsRow.holds Try.pinned (OpenSpec.ofChange fnEndsWrong)

/-- 'laws.FnExactDecodeMany': WHATEVER THE INPUT: true; the input reads as it did. -/
def fnExactDecodeManySpec : ChangeSpec := { name := "fnExactDecodeMany", fn := fun _ => fun
  | [d1, d2] => { results := [.lit (.bool true)], args := [d1, d2] }
  | _ => none }
def fnExactDecodeManyRow : OpenClaim := { program := "ytkoahogalplhhaa", sum := "05cd4cff1d20d14a16ecb466a2973fd3a04722b0fa146dced7fa614cd8621a19", func := "loop.example/g00523/laws.FnExactDecodeMany", spec := "fnExactDecodeMany", apart := false }
def FnExactDecodeManySaid : Prop := fnExactDecodeManyRow.holds Try.pinned (OpenSpec.ofChange fnExactDecodeManySpec)

/-- ITS FALSE NEIGHBOUR: 'it returns false'. Refute it at one input. -/
def fnExactDecodeManyWrong : ChangeSpec := { name := "fnExactDecodeMany", fn := fun _ => fun
  | [d1, d2] => { results := [.lit (.bool false)], args := [d1, d2] }
  | _ => none }
def FnExactDecodeManyWrongFalsely : Prop := fnExactDecodeManyRow.holds Try.pinned (OpenSpec.ofChange fnExactDecodeManyWrong)

/- THE SECOND FORM. 'bulk': how many values and letters a reading holds, each counted each time it is reached (what is shared counts as often as it is met; a slice's spare places count too). A statement '..UptoSaid' is the law's where the arguments, and the package variables that the reading takes, are together of bulk at most 1048576: NARROWER than '..Said'. Prove '..Said' where nothing that the law and all that it calls make is longer than what came in: it says more and counts as full. Else prove '..UptoSaid'. A law counts once. -/
mutual
def uptoBulk {H : Type} : DataW H → Nat
  | .lit (.string bytes) => bytes.length + 1
  | .lit _ => 1
  | .nil => 1
  | .ptr d => uptoBulk d + 1
  | .slice elems spare => uptoBulkAll elems + uptoBulkAll spare + 1
  | .agg parts => uptoBulkAll parts + 1
  | .iface _ d => uptoBulk d + 1
  | .map entries => uptoBulkEntries entries + 1
  | .held _ => 1
def uptoBulkAll {H : Type} : List (DataW H) → Nat
  | [] => 0
  | d :: r => uptoBulk d + uptoBulkAll r
def uptoBulkEntries {H : Type} : List (Lit × DataW H) → Nat
  | [] => 0
  | x :: r => uptoBulkEntry x + uptoBulkEntries r
def uptoBulkEntry {H : Type} : Lit × DataW H → Nat
  | (.string bytes, d) => bytes.length + uptoBulk d + 1
  | (_, d) => uptoBulk d + 1
 end
def uptoSmall : (H : Type) → List (DataW H) → Bool := fun _ ds => decide (uptoBulkAll ds ≤ 1048576)
def OpenSpec.upto (s : _root_.Go.ChangeSpec) : _root_.Go.OpenSpec := { _root_.Go.OpenSpec.ofChange s with cond := some uptoSmall }

/-- 'laws.FnExactFeedsIn', WHERE WHAT IT READS IS OF BULK AT MOST 1048576: true; the input reads as it did. -/
def fnExactFeedsInUptoRow : OpenClaim := { program := "ytkoahogalplhhaa", sum := "05cd4cff1d20d14a16ecb466a2973fd3a04722b0fa146dced7fa614cd8621a19", func := "loop.example/g00523/laws.FnExactFeedsIn", spec := "fnExactFeedsIn", apart := false, narrowed := true }
def FnExactFeedsInUptoSaid : Prop := fnExactFeedsInUptoRow.holds Try.pinned (OpenSpec.upto fnExactFeedsInSpec)

/-- 'laws.FnExactSameLines', WHERE WHAT IT READS IS OF BULK AT MOST 1048576: true; the input reads as it did. -/
def fnExactSameLinesUptoRow : OpenClaim := { program := "ytkoahogalplhhaa", sum := "05cd4cff1d20d14a16ecb466a2973fd3a04722b0fa146dced7fa614cd8621a19", func := "loop.example/g00523/laws.FnExactSameLines", spec := "fnExactSameLines", unfollowed := true, recurses := true, apart := false, narrowed := true }
def FnExactSameLinesUptoSaid : Prop := fnExactSameLinesUptoRow.holds Try.pinned (OpenSpec.upto fnExactSameLinesSpec)

/-- 'laws.FnExactLineFault', WHERE WHAT IT READS IS OF BULK AT MOST 1048576: true; the input reads as it did. -/
def fnExactLineFaultUptoRow : OpenClaim := { program := "ytkoahogalplhhaa", sum := "05cd4cff1d20d14a16ecb466a2973fd3a04722b0fa146dced7fa614cd8621a19", func := "loop.example/g00523/laws.FnExactLineFault", spec := "fnExactLineFault", apart := false, narrowed := true }
def FnExactLineFaultUptoSaid : Prop := fnExactLineFaultUptoRow.holds Try.pinned (OpenSpec.upto fnExactLineFaultSpec)

/-- 'laws.FnExactPlainBytes', WHERE WHAT IT READS IS OF BULK AT MOST 1048576: true; the input reads as it did. -/
def fnExactPlainBytesUptoRow : OpenClaim := { program := "ytkoahogalplhhaa", sum := "05cd4cff1d20d14a16ecb466a2973fd3a04722b0fa146dced7fa614cd8621a19", func := "loop.example/g00523/laws.FnExactPlainBytes", spec := "fnExactPlainBytes", apart := false, narrowed := true }
def FnExactPlainBytesUptoSaid : Prop := fnExactPlainBytesUptoRow.holds Try.pinned (OpenSpec.upto fnExactPlainBytesSpec)

/-- 'laws.FnExactEventFault', WHERE WHAT IT READS IS OF BULK AT MOST 1048576: true; the input reads as it did. -/
def fnExactEventFaultUptoRow : OpenClaim := { program := "ytkoahogalplhhaa", sum := "05cd4cff1d20d14a16ecb466a2973fd3a04722b0fa146dced7fa614cd8621a19", func := "loop.example/g00523/laws.FnExactEventFault", spec := "fnExactEventFault", apart := false, narrowed := true }
def FnExactEventFaultUptoSaid : Prop := fnExactEventFaultUptoRow.holds Try.pinned (OpenSpec.upto fnExactEventFaultSpec)

/-- 'laws.FnExactQueueSize', WHERE WHAT IT READS IS OF BULK AT MOST 1048576: true; the input reads as it did. -/
def fnExactQueueSizeUptoRow : OpenClaim := { program := "ytkoahogalplhhaa", sum := "05cd4cff1d20d14a16ecb466a2973fd3a04722b0fa146dced7fa614cd8621a19", func := "loop.example/g00523/laws.FnExactQueueSize", spec := "fnExactQueueSize", apart := false, narrowed := true }
def FnExactQueueSizeUptoSaid : Prop := fnExactQueueSizeUptoRow.holds Try.pinned (OpenSpec.upto fnExactQueueSizeSpec)

/-- 'laws.FnExactPostBytes', WHERE WHAT IT READS IS OF BULK AT MOST 1048576: true; the input reads as it did. -/
def fnExactPostBytesUptoRow : OpenClaim := { program := "ytkoahogalplhhaa", sum := "05cd4cff1d20d14a16ecb466a2973fd3a04722b0fa146dced7fa614cd8621a19", func := "loop.example/g00523/laws.FnExactPostBytes", spec := "fnExactPostBytes", apart := false, narrowed := true }
def FnExactPostBytesUptoSaid : Prop := fnExactPostBytesUptoRow.holds Try.pinned (OpenSpec.upto fnExactPostBytesSpec)

/-- 'laws.FnExactStepDecoder', WHERE WHAT IT READS IS OF BULK AT MOST 1048576: true; the input reads as it did. -/
def fnExactStepDecoderUptoRow : OpenClaim := { program := "ytkoahogalplhhaa", sum := "05cd4cff1d20d14a16ecb466a2973fd3a04722b0fa146dced7fa614cd8621a19", func := "loop.example/g00523/laws.FnExactStepDecoder", spec := "fnExactStepDecoder", apart := false, narrowed := true }
def FnExactStepDecoderUptoSaid : Prop := fnExactStepDecoderUptoRow.holds Try.pinned (OpenSpec.upto fnExactStepDecoderSpec)

/-- 'laws.FnPosts', WHERE WHAT IT READS IS OF BULK AT MOST 1048576: true; the input reads as it did. -/
def fnPostsUptoRow : OpenClaim := { program := "ytkoahogalplhhaa", sum := "05cd4cff1d20d14a16ecb466a2973fd3a04722b0fa146dced7fa614cd8621a19", func := "loop.example/g00523/laws.FnPosts", spec := "fnPosts", apart := false, narrowed := true }
def FnPostsUptoSaid : Prop := fnPostsUptoRow.holds Try.pinned (OpenSpec.upto fnPostsSpec)

/-- 'laws.FnBytes', WHERE WHAT IT READS IS OF BULK AT MOST 1048576: true; the input reads as it did. -/
def fnBytesUptoRow : OpenClaim := { program := "ytkoahogalplhhaa", sum := "05cd4cff1d20d14a16ecb466a2973fd3a04722b0fa146dced7fa614cd8621a19", func := "loop.example/g00523/laws.FnBytes", spec := "fnBytes", apart := false, narrowed := true }
def FnBytesUptoSaid : Prop := fnBytesUptoRow.holds Try.pinned (OpenSpec.upto fnBytesSpec)

/-- 'laws.FnEnds', WHERE WHAT IT READS IS OF BULK AT MOST 1048576: true; the input reads as it did. -/
def fnEndsUptoRow : OpenClaim := { program := "ytkoahogalplhhaa", sum := "05cd4cff1d20d14a16ecb466a2973fd3a04722b0fa146dced7fa614cd8621a19", func := "loop.example/g00523/laws.FnEnds", spec := "fnEnds", unfollowed := true, recurses := true, apart := false, narrowed := true }
def FnEndsUptoSaid : Prop := fnEndsUptoRow.holds Try.pinned (OpenSpec.upto fnEndsSpec)

/-- 'laws.FnExactDecodeMany', WHERE WHAT IT READS IS OF BULK AT MOST 1048576: true; the input reads as it did. -/
def fnExactDecodeManyUptoRow : OpenClaim := { program := "ytkoahogalplhhaa", sum := "05cd4cff1d20d14a16ecb466a2973fd3a04722b0fa146dced7fa614cd8621a19", func := "loop.example/g00523/laws.FnExactDecodeMany", spec := "fnExactDecodeMany", apart := false, narrowed := true }
def FnExactDecodeManyUptoSaid : Prop := fnExactDecodeManyUptoRow.holds Try.pinned (OpenSpec.upto fnExactDecodeManySpec)

end Rows
end Go.Proofs.Ytkoahogalplhhaa
