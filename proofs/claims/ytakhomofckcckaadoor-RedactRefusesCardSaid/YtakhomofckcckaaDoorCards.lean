/-
  DERIVED. GIVEN WITH THE SEED: THE CARDS: each row of YtakhomofckcckaaDoorRows.lean that lists a variable, with what it lists TIED to the program's text (the seventh form; the later family's looks); each row that meets fmt, with fmt's text TOLD by the authors' own Lean function (tested against real Go, not proved from fmt's source: count such statements apart). THE CARD IS WHAT COUNTS. Prove the row's statement (the work); the ties are given (YtakhomofckcckaaDoorTie.lean); close each card by the builder's one call (the guide's Derived/Test/ToyasCard.lean, 'card_holds'). Laid BY PROGRAM, IN A SANDBOX (cutbox-door.mjs). By AI agents, Wed Nov 11 2026. No macro, syntax, notation, axiom, sorry.
-/
import Derived.Test.YtakhomofckcckaaDoorRows
import GoSem.ClaimSeven
namespace Go.Proofs.YtakhomofckcckaaDoor
namespace Rows

/-- THE TIED CARD OF 'evergreenlaw23.RedactHides'. -/
def redactHidesCard : Claim7 := { stood := { row := redactHidesRow, standIns := [], harness := (true, "f201dbc3e8d60e71e7a359b573b2b250416ee05b27bc8ebc686ea34bc45dcedb"), looks := false }, kinds := [], alts := [], laidByText := true, laidKinds := [.data, .data, .pinned], laidTests := true, laidLooks := .later }
def RedactHidesCardSaid : Prop := Claim7.holds Tryd.pinned (.plain (OpenSpec.ofChange redactHidesSpec)) redactHidesCard

/-- THE TIED CARD OF 'evergreenlaw23.RedactNothing'. -/
def redactNothingCard : Claim7 := { stood := { row := redactNothingRow, standIns := [], harness := (true, "f201dbc3e8d60e71e7a359b573b2b250416ee05b27bc8ebc686ea34bc45dcedb"), looks := false }, kinds := [], alts := [], laidByText := true, laidKinds := [.data, .data, .pinned], laidTests := true, laidLooks := .later }
def RedactNothingCardSaid : Prop := Claim7.holds Tryd.pinned (.plain (OpenSpec.ofChange redactNothingSpec)) redactNothingCard

/-- THE TIED CARD OF 'evergreenlaw23.RedactRefuses'. -/
def redactRefusesCard : Claim7 := { stood := { row := redactRefusesRow, standIns := [], harness := (true, "f201dbc3e8d60e71e7a359b573b2b250416ee05b27bc8ebc686ea34bc45dcedb"), looks := false }, kinds := [], alts := [], laidByText := true, laidKinds := [.data, .data, .pinned], laidTests := true, laidLooks := .later }
def RedactRefusesCardSaid : Prop := Claim7.holds Tryd.pinned (.plain (OpenSpec.ofChange redactRefusesSpec)) redactRefusesCard

/-- THE SECOND FORM's CARD OF 'evergreenlaw23.RedactHides'. -/
def redactHidesUptoCard : Claim7 := { stood := { row := redactHidesUptoRow, standIns := [], harness := (true, "f201dbc3e8d60e71e7a359b573b2b250416ee05b27bc8ebc686ea34bc45dcedb"), looks := false }, kinds := [], alts := [], laidByText := true, laidKinds := [.data, .data, .pinned], laidTests := true, laidLooks := .later }
def RedactHidesUptoCardSaid : Prop := Claim7.holds Tryd.pinned (.plain (OpenSpec.upto redactHidesSpec)) redactHidesUptoCard

/-- THE SECOND FORM's CARD OF 'evergreenlaw23.RedactNothing'. -/
def redactNothingUptoCard : Claim7 := { stood := { row := redactNothingUptoRow, standIns := [], harness := (true, "f201dbc3e8d60e71e7a359b573b2b250416ee05b27bc8ebc686ea34bc45dcedb"), looks := false }, kinds := [], alts := [], laidByText := true, laidKinds := [.data, .data, .pinned], laidTests := true, laidLooks := .later }
def RedactNothingUptoCardSaid : Prop := Claim7.holds Tryd.pinned (.plain (OpenSpec.upto redactNothingSpec)) redactNothingUptoCard

/-- THE SECOND FORM's CARD OF 'evergreenlaw23.RedactRefuses'. -/
def redactRefusesUptoCard : Claim7 := { stood := { row := redactRefusesUptoRow, standIns := [], harness := (true, "f201dbc3e8d60e71e7a359b573b2b250416ee05b27bc8ebc686ea34bc45dcedb"), looks := false }, kinds := [], alts := [], laidByText := true, laidKinds := [.data, .data, .pinned], laidTests := true, laidLooks := .later }
def RedactRefusesUptoCardSaid : Prop := Claim7.holds Tryd.pinned (.plain (OpenSpec.upto redactRefusesSpec)) redactRefusesUptoCard
end Rows
end Go.Proofs.YtakhomofckcckaaDoor
