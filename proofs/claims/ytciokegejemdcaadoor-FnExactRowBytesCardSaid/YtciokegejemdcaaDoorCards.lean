/-
  DERIVED. GIVEN WITH THE SEED: THE CARDS: each row of YtciokegejemdcaaDoorRows.lean that lists a variable, with what it lists TIED to the program's text (the seventh form; the later family's looks); each row that meets fmt, with fmt's text TOLD by the authors' own Lean function (tested against real Go, not proved from fmt's source: count such statements apart). THE CARD IS WHAT COUNTS. Prove the row's statement (the work); the ties are given (YtciokegejemdcaaDoorTie.lean); close each card by the builder's one call (the guide's Derived/Test/ToyasCard.lean, 'card_holds'). Laid BY PROGRAM, IN A SANDBOX (cutbox-door.mjs). By AI agents, Wed Nov 11 2026. No macro, syntax, notation, axiom, sorry.
-/
import Derived.Test.YtciokegejemdcaaDoorRows
import GoSem.ClaimSeven
namespace Go.Proofs.YtciokegejemdcaaDoor
namespace Rows

/-- THE TIED CARD OF 'laws.FnExactRowBytes'. -/
def fnExactRowBytesCard : Claim7 := { stood := { row := fnExactRowBytesRow, standIns := [], harness := (true, "50d1a64fe3e7557496bb7d1cc8762d53211a04fe96e1944a5446b14db4f20651"), looks := false }, kinds := [], alts := [], laidByText := true, laidKinds := [.data, .data, .data], laidTests := true, laidLooks := .later }
def FnExactRowBytesCardSaid : Prop := Claim7.holds Tryd.pinned (.plain (OpenSpec.ofChange fnExactRowBytesSpec)) fnExactRowBytesCard

/-- THE SECOND FORM's CARD OF 'laws.FnExactRowBytes'. -/
def fnExactRowBytesUptoCard : Claim7 := { stood := { row := fnExactRowBytesUptoRow, standIns := [], harness := (true, "50d1a64fe3e7557496bb7d1cc8762d53211a04fe96e1944a5446b14db4f20651"), looks := false }, kinds := [], alts := [], laidByText := true, laidKinds := [.data, .data, .data], laidTests := true, laidLooks := .later }
def FnExactRowBytesUptoCardSaid : Prop := Claim7.holds Tryd.pinned (.plain (OpenSpec.upto fnExactRowBytesSpec)) fnExactRowBytesUptoCard
end Rows
end Go.Proofs.YtciokegejemdcaaDoor
