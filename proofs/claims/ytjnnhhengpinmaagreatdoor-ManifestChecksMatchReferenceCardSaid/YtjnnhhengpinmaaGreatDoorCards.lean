/-
  DERIVED. GIVEN WITH THE SEED: THE CARDS: each row of YtjnnhhengpinmaaGreatDoorRows.lean that lists a variable, with what it lists TIED to the program's text (the seventh form; the later family's looks); each row that meets fmt, with fmt's text TOLD by the authors' own Lean function (tested against real Go, not proved from fmt's source: count such statements apart). THE CARD IS WHAT COUNTS. Prove the row's statement (the work); the ties are given (YtjnnhhengpinmaaGreatDoorTie.lean); close each card by the builder's one call (the guide's Derived/Test/ToyasCard.lean, 'card_holds'). Laid BY PROGRAM, IN A SANDBOX (cutbox-door.mjs). By AI agents, Wed Nov 11 2026. No macro, syntax, notation, axiom, sorry.
-/
import Derived.Test.YtjnnhhengpinmaaGreatDoorRows
import GoSem.ClaimSeven
namespace Go.Proofs.YtjnnhhengpinmaaGreatDoor
namespace Rows

/-- THE TIED CARD OF 'evergreenlaw14.ManifestMatchesReference'. -/
def manifestMatchesReferenceCard : Claim7 := { stood := { row := manifestMatchesReferenceRow, standIns := [], harness := (true, "d2725736d91ba5391571035296bbe25d87cc8d79c0155d6a184c9c3aeb6f602f"), looks := true }, kinds := [], alts := [], laidByText := true, laidKinds := [.data], laidTests := true, laidLooks := .later }
def ManifestMatchesReferenceCardSaid : Prop := Claim7.holds Tryz.pinned (.plain (OpenSpec.ofChange manifestMatchesReferenceSpec)) manifestMatchesReferenceCard

/-- THE TIED CARD OF 'evergreenlaw14.ManifestChecksMatchReference'. -/
def manifestChecksMatchReferenceCard : Claim7 := { stood := { row := manifestChecksMatchReferenceRow, standIns := [], harness := (true, "d2725736d91ba5391571035296bbe25d87cc8d79c0155d6a184c9c3aeb6f602f"), looks := true }, kinds := [], alts := [], laidByText := true, laidKinds := [.data], laidTests := true, laidLooks := .later }
def ManifestChecksMatchReferenceCardSaid : Prop := Claim7.holds Tryz.pinned (.plain (OpenSpec.ofChange manifestChecksMatchReferenceSpec)) manifestChecksMatchReferenceCard

/-- THE TIED CARD OF 'evergreenlaw14.ManifestDecodeMatchesReference'. -/
def manifestDecodeMatchesReferenceCard : Claim7 := { stood := { row := manifestDecodeMatchesReferenceRow, standIns := [], harness := (true, "d2725736d91ba5391571035296bbe25d87cc8d79c0155d6a184c9c3aeb6f602f"), looks := true }, kinds := [], alts := [], laidByText := true, laidKinds := [.data], laidTests := true, laidLooks := .later }
def ManifestDecodeMatchesReferenceCardSaid : Prop := Claim7.holds Tryz.pinned (.plain (OpenSpec.ofChange manifestDecodeMatchesReferenceSpec)) manifestDecodeMatchesReferenceCard

/-- THE TIED CARD OF 'evergreenlaw14.ManifestRoundTrip'. -/
def manifestRoundTripCard : Claim7 := { stood := { row := manifestRoundTripRow, standIns := [], harness := (true, "d2725736d91ba5391571035296bbe25d87cc8d79c0155d6a184c9c3aeb6f602f"), looks := true }, kinds := [], alts := [], laidByText := true, laidKinds := [.data], laidTests := true, laidLooks := .later }
def ManifestRoundTripCardSaid : Prop := Claim7.holds Tryz.pinned (.plain (OpenSpec.ofChange manifestRoundTripSpec)) manifestRoundTripCard

/-- THE TIED CARD OF 'evergreenlaw14.ManifestProved'. -/
def manifestProvedCard : Claim7 := { stood := { row := manifestProvedRow, standIns := [], harness := (true, "d2725736d91ba5391571035296bbe25d87cc8d79c0155d6a184c9c3aeb6f602f"), looks := true }, kinds := [], alts := [], laidByText := true, laidKinds := [.data], laidTests := true, laidLooks := .later }
def ManifestProvedCardSaid : Prop := Claim7.holds Tryz.pinned (.plain (OpenSpec.ofChange manifestProvedSpec)) manifestProvedCard

/-- THE TIED CARD OF 'evergreenlaw14.ManifestBinding'. -/
def manifestBindingCard : Claim7 := { stood := { row := manifestBindingRow, standIns := [], harness := (true, "d2725736d91ba5391571035296bbe25d87cc8d79c0155d6a184c9c3aeb6f602f"), looks := true }, kinds := [], alts := [], laidByText := true, laidKinds := [.data], laidTests := true, laidLooks := .later }
def ManifestBindingCardSaid : Prop := Claim7.holds Tryz.pinned (.plain (OpenSpec.ofChange manifestBindingSpec)) manifestBindingCard

/-- THE TIED CARD OF 'evergreenlaw14.ManifestRoots'. -/
def manifestRootsCard : Claim7 := { stood := { row := manifestRootsRow, standIns := [], harness := (true, "d2725736d91ba5391571035296bbe25d87cc8d79c0155d6a184c9c3aeb6f602f"), looks := true }, kinds := [], alts := [], laidByText := true, laidKinds := [.data], laidTests := true, laidLooks := .later }
def ManifestRootsCardSaid : Prop := Claim7.holds Tryz.pinned (.plain (OpenSpec.ofChange manifestRootsSpec)) manifestRootsCard

/-- THE TIED CARD OF 'evergreenlaw14.ManifestFixity'. -/
def manifestFixityCard : Claim7 := { stood := { row := manifestFixityRow, standIns := [], harness := (true, "d2725736d91ba5391571035296bbe25d87cc8d79c0155d6a184c9c3aeb6f602f"), looks := true }, kinds := [], alts := [], laidByText := true, laidKinds := [.data], laidTests := true, laidLooks := .later }
def ManifestFixityCardSaid : Prop := Claim7.holds Tryz.pinned (.plain (OpenSpec.ofChange manifestFixitySpec)) manifestFixityCard

/-- THE TIED CARD OF 'evergreenlaw14.ManifestOrder'. -/
def manifestOrderCard : Claim7 := { stood := { row := manifestOrderRow, standIns := [], harness := (true, "d2725736d91ba5391571035296bbe25d87cc8d79c0155d6a184c9c3aeb6f602f"), looks := true }, kinds := [], alts := [], laidByText := true, laidKinds := [.data], laidTests := true, laidLooks := .later }
def ManifestOrderCardSaid : Prop := Claim7.holds Tryz.pinned (.plain (OpenSpec.ofChange manifestOrderSpec)) manifestOrderCard

/-- THE TIED CARD OF 'evergreenlaw14.ManifestPaths'. -/
def manifestPathsCard : Claim7 := { stood := { row := manifestPathsRow, standIns := [], harness := (true, "d2725736d91ba5391571035296bbe25d87cc8d79c0155d6a184c9c3aeb6f602f"), looks := true }, kinds := [], alts := [], laidByText := true, laidKinds := [.data], laidTests := true, laidLooks := .later }
def ManifestPathsCardSaid : Prop := Claim7.holds Tryz.pinned (.plain (OpenSpec.ofChange manifestPathsSpec)) manifestPathsCard

/-- THE SECOND FORM's CARD OF 'evergreenlaw14.ManifestMatchesReference'. -/
def manifestMatchesReferenceUptoCard : Claim7 := { stood := { row := manifestMatchesReferenceUptoRow, standIns := [], harness := (true, "d2725736d91ba5391571035296bbe25d87cc8d79c0155d6a184c9c3aeb6f602f"), looks := true }, kinds := [], alts := [], laidByText := true, laidKinds := [.data], laidTests := true, laidLooks := .later }
def ManifestMatchesReferenceUptoCardSaid : Prop := Claim7.holds Tryz.pinned (.plain (OpenSpec.upto manifestMatchesReferenceSpec)) manifestMatchesReferenceUptoCard

/-- THE SECOND FORM's CARD OF 'evergreenlaw14.ManifestChecksMatchReference'. -/
def manifestChecksMatchReferenceUptoCard : Claim7 := { stood := { row := manifestChecksMatchReferenceUptoRow, standIns := [], harness := (true, "d2725736d91ba5391571035296bbe25d87cc8d79c0155d6a184c9c3aeb6f602f"), looks := true }, kinds := [], alts := [], laidByText := true, laidKinds := [.data], laidTests := true, laidLooks := .later }
def ManifestChecksMatchReferenceUptoCardSaid : Prop := Claim7.holds Tryz.pinned (.plain (OpenSpec.upto manifestChecksMatchReferenceSpec)) manifestChecksMatchReferenceUptoCard

/-- THE SECOND FORM's CARD OF 'evergreenlaw14.ManifestDecodeMatchesReference'. -/
def manifestDecodeMatchesReferenceUptoCard : Claim7 := { stood := { row := manifestDecodeMatchesReferenceUptoRow, standIns := [], harness := (true, "d2725736d91ba5391571035296bbe25d87cc8d79c0155d6a184c9c3aeb6f602f"), looks := true }, kinds := [], alts := [], laidByText := true, laidKinds := [.data], laidTests := true, laidLooks := .later }
def ManifestDecodeMatchesReferenceUptoCardSaid : Prop := Claim7.holds Tryz.pinned (.plain (OpenSpec.upto manifestDecodeMatchesReferenceSpec)) manifestDecodeMatchesReferenceUptoCard

/-- THE SECOND FORM's CARD OF 'evergreenlaw14.ManifestRoundTrip'. -/
def manifestRoundTripUptoCard : Claim7 := { stood := { row := manifestRoundTripUptoRow, standIns := [], harness := (true, "d2725736d91ba5391571035296bbe25d87cc8d79c0155d6a184c9c3aeb6f602f"), looks := true }, kinds := [], alts := [], laidByText := true, laidKinds := [.data], laidTests := true, laidLooks := .later }
def ManifestRoundTripUptoCardSaid : Prop := Claim7.holds Tryz.pinned (.plain (OpenSpec.upto manifestRoundTripSpec)) manifestRoundTripUptoCard

/-- THE SECOND FORM's CARD OF 'evergreenlaw14.ManifestProved'. -/
def manifestProvedUptoCard : Claim7 := { stood := { row := manifestProvedUptoRow, standIns := [], harness := (true, "d2725736d91ba5391571035296bbe25d87cc8d79c0155d6a184c9c3aeb6f602f"), looks := true }, kinds := [], alts := [], laidByText := true, laidKinds := [.data], laidTests := true, laidLooks := .later }
def ManifestProvedUptoCardSaid : Prop := Claim7.holds Tryz.pinned (.plain (OpenSpec.upto manifestProvedSpec)) manifestProvedUptoCard

/-- THE SECOND FORM's CARD OF 'evergreenlaw14.ManifestBinding'. -/
def manifestBindingUptoCard : Claim7 := { stood := { row := manifestBindingUptoRow, standIns := [], harness := (true, "d2725736d91ba5391571035296bbe25d87cc8d79c0155d6a184c9c3aeb6f602f"), looks := true }, kinds := [], alts := [], laidByText := true, laidKinds := [.data], laidTests := true, laidLooks := .later }
def ManifestBindingUptoCardSaid : Prop := Claim7.holds Tryz.pinned (.plain (OpenSpec.upto manifestBindingSpec)) manifestBindingUptoCard

/-- THE SECOND FORM's CARD OF 'evergreenlaw14.ManifestRoots'. -/
def manifestRootsUptoCard : Claim7 := { stood := { row := manifestRootsUptoRow, standIns := [], harness := (true, "d2725736d91ba5391571035296bbe25d87cc8d79c0155d6a184c9c3aeb6f602f"), looks := true }, kinds := [], alts := [], laidByText := true, laidKinds := [.data], laidTests := true, laidLooks := .later }
def ManifestRootsUptoCardSaid : Prop := Claim7.holds Tryz.pinned (.plain (OpenSpec.upto manifestRootsSpec)) manifestRootsUptoCard

/-- THE SECOND FORM's CARD OF 'evergreenlaw14.ManifestFixity'. -/
def manifestFixityUptoCard : Claim7 := { stood := { row := manifestFixityUptoRow, standIns := [], harness := (true, "d2725736d91ba5391571035296bbe25d87cc8d79c0155d6a184c9c3aeb6f602f"), looks := true }, kinds := [], alts := [], laidByText := true, laidKinds := [.data], laidTests := true, laidLooks := .later }
def ManifestFixityUptoCardSaid : Prop := Claim7.holds Tryz.pinned (.plain (OpenSpec.upto manifestFixitySpec)) manifestFixityUptoCard

/-- THE SECOND FORM's CARD OF 'evergreenlaw14.ManifestOrder'. -/
def manifestOrderUptoCard : Claim7 := { stood := { row := manifestOrderUptoRow, standIns := [], harness := (true, "d2725736d91ba5391571035296bbe25d87cc8d79c0155d6a184c9c3aeb6f602f"), looks := true }, kinds := [], alts := [], laidByText := true, laidKinds := [.data], laidTests := true, laidLooks := .later }
def ManifestOrderUptoCardSaid : Prop := Claim7.holds Tryz.pinned (.plain (OpenSpec.upto manifestOrderSpec)) manifestOrderUptoCard

/-- THE SECOND FORM's CARD OF 'evergreenlaw14.ManifestPaths'. -/
def manifestPathsUptoCard : Claim7 := { stood := { row := manifestPathsUptoRow, standIns := [], harness := (true, "d2725736d91ba5391571035296bbe25d87cc8d79c0155d6a184c9c3aeb6f602f"), looks := true }, kinds := [], alts := [], laidByText := true, laidKinds := [.data], laidTests := true, laidLooks := .later }
def ManifestPathsUptoCardSaid : Prop := Claim7.holds Tryz.pinned (.plain (OpenSpec.upto manifestPathsSpec)) manifestPathsUptoCard
end Rows
end Go.Proofs.YtjnnhhengpinmaaGreatDoor
