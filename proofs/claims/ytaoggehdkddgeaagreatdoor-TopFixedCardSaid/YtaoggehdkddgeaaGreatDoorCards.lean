/-
  DERIVED. GIVEN WITH THE SEED: THE CARDS: each row of YtaoggehdkddgeaaGreatDoorRows.lean that lists a variable, with what it lists TIED to the program's text (the seventh form; the later family's looks); each row that meets fmt, with fmt's text TOLD by the authors' own Lean function (tested against real Go, not proved from fmt's source: count such statements apart). THE CARD IS WHAT COUNTS. Prove the row's statement (the work); the ties are given (YtaoggehdkddgeaaGreatDoorTie.lean); close each card by the builder's one call (the guide's Derived/Test/ToyasCard.lean, 'card_holds'). Laid BY PROGRAM, IN A SANDBOX (cutbox-door.mjs). By AI agents, Wed Nov 11 2026. No macro, syntax, notation, axiom, sorry.
-/
import Derived.Test.YtaoggehdkddgeaaGreatDoorRows
import GoSem.ClaimSeven
namespace Go.Proofs.YtaoggehdkddgeaaGreatDoor
namespace Rows

/-- THE TIED CARD OF 'evergreentop.TopFixed'. -/
def topFixedCard : Claim7 := { stood := { row := topFixedRow, standIns := [], harness := (true, "b3c88665960d30947ee18829811b5fe6e217dbcd5201d5e2f9374ccb6a6cdfb2"), looks := true }, kinds := [], alts := [], laidByText := true, laidKinds := [.data, .data, .pinned, .pinned], laidTests := true, laidLooks := .later }
def TopFixedCardSaid : Prop := Claim7.holds Tryz.pinned (.plain (OpenSpec.ofChange topFixedSpec)) topFixedCard

/-- THE SECOND FORM's CARD OF 'evergreentop.TopFixed'. -/
def topFixedUptoCard : Claim7 := { stood := { row := topFixedUptoRow, standIns := [], harness := (true, "b3c88665960d30947ee18829811b5fe6e217dbcd5201d5e2f9374ccb6a6cdfb2"), looks := true }, kinds := [], alts := [], laidByText := true, laidKinds := [.data, .data, .pinned, .pinned], laidTests := true, laidLooks := .later }
def TopFixedUptoCardSaid : Prop := Claim7.holds Tryz.pinned (.plain (OpenSpec.upto topFixedSpec)) topFixedUptoCard
end Rows
end Go.Proofs.YtaoggehdkddgeaaGreatDoor
