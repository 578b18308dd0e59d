/-
  DERIVED. GIVEN WITH THE SEED: THE CARDS: each row of YtakhomofckcckaaGreatDoorRows.lean that lists a variable, with what it lists TIED to the program's text (the seventh form; the later family's looks); each row that meets fmt, with fmt's text TOLD by the authors' own Lean function (tested against real Go, not proved from fmt's source: count such statements apart). THE CARD IS WHAT COUNTS. Prove the row's statement (the work); the ties are given (YtakhomofckcckaaGreatDoorTie.lean); close each card by the builder's one call (the guide's Derived/Test/ToyasCard.lean, 'card_holds'). Laid BY PROGRAM, IN A SANDBOX (cutbox-door.mjs). By AI agents, Wed Nov 11 2026. No macro, syntax, notation, axiom, sorry.
-/
import Derived.Test.YtakhomofckcckaaGreatDoorRows
import GoSem.ClaimSeven
namespace Go.Proofs.YtakhomofckcckaaGreatDoor
namespace Rows

/-- THE TIED CARD OF 'evergreenlaw23.RedactMatchesReference'. -/
def redactMatchesReferenceCard : Claim7 := { stood := { row := redactMatchesReferenceRow, standIns := [], harness := (true, "488f1dd3583e3bef20361dc561b0f256697fff4a7cfd66c3831747d0ecf408f0"), looks := false }, kinds := [], alts := [], laidByText := true, laidKinds := [.data, .data, .pinned], laidTests := true, laidLooks := .later }
def RedactMatchesReferenceCardSaid : Prop := Claim7.holds Tryz.pinned (.plain (OpenSpec.ofChange redactMatchesReferenceSpec)) redactMatchesReferenceCard

/-- THE TIED CARD OF 'evergreenlaw23.RedactBinding'. -/
def redactBindingCard : Claim7 := { stood := { row := redactBindingRow, standIns := [], harness := (true, "488f1dd3583e3bef20361dc561b0f256697fff4a7cfd66c3831747d0ecf408f0"), looks := false }, kinds := [], alts := [], laidByText := true, laidKinds := [.data, .data, .pinned], laidTests := true, laidLooks := .later }
def RedactBindingCardSaid : Prop := Claim7.holds Tryz.pinned (.plain (OpenSpec.ofChange redactBindingSpec)) redactBindingCard

/-- THE TIED CARD OF 'evergreenlaw23.RedactSalts'. -/
def redactSaltsCard : Claim7 := { stood := { row := redactSaltsRow, standIns := [], harness := (true, "488f1dd3583e3bef20361dc561b0f256697fff4a7cfd66c3831747d0ecf408f0"), looks := false }, kinds := [], alts := [], laidByText := true, laidKinds := [.data, .data, .pinned], laidTests := true, laidLooks := .later }
def RedactSaltsCardSaid : Prop := Claim7.holds Tryz.pinned (.plain (OpenSpec.ofChange redactSaltsSpec)) redactSaltsCard

/-- THE TIED CARD OF 'evergreenlaw23.RedactTexts'. -/
def redactTextsCard : Claim7 := { stood := { row := redactTextsRow, standIns := [], harness := (true, "488f1dd3583e3bef20361dc561b0f256697fff4a7cfd66c3831747d0ecf408f0"), looks := false }, kinds := [], alts := [], laidByText := true, laidKinds := [.data, .data, .pinned], laidTests := true, laidLooks := .later }
def RedactTextsCardSaid : Prop := Claim7.holds Tryz.pinned (.plain (OpenSpec.ofChange redactTextsSpec)) redactTextsCard

/-- THE SECOND FORM's CARD OF 'evergreenlaw23.RedactMatchesReference'. -/
def redactMatchesReferenceUptoCard : Claim7 := { stood := { row := redactMatchesReferenceUptoRow, standIns := [], harness := (true, "488f1dd3583e3bef20361dc561b0f256697fff4a7cfd66c3831747d0ecf408f0"), looks := false }, kinds := [], alts := [], laidByText := true, laidKinds := [.data, .data, .pinned], laidTests := true, laidLooks := .later }
def RedactMatchesReferenceUptoCardSaid : Prop := Claim7.holds Tryz.pinned (.plain (OpenSpec.upto redactMatchesReferenceSpec)) redactMatchesReferenceUptoCard

/-- THE SECOND FORM's CARD OF 'evergreenlaw23.RedactBinding'. -/
def redactBindingUptoCard : Claim7 := { stood := { row := redactBindingUptoRow, standIns := [], harness := (true, "488f1dd3583e3bef20361dc561b0f256697fff4a7cfd66c3831747d0ecf408f0"), looks := false }, kinds := [], alts := [], laidByText := true, laidKinds := [.data, .data, .pinned], laidTests := true, laidLooks := .later }
def RedactBindingUptoCardSaid : Prop := Claim7.holds Tryz.pinned (.plain (OpenSpec.upto redactBindingSpec)) redactBindingUptoCard

/-- THE SECOND FORM's CARD OF 'evergreenlaw23.RedactSalts'. -/
def redactSaltsUptoCard : Claim7 := { stood := { row := redactSaltsUptoRow, standIns := [], harness := (true, "488f1dd3583e3bef20361dc561b0f256697fff4a7cfd66c3831747d0ecf408f0"), looks := false }, kinds := [], alts := [], laidByText := true, laidKinds := [.data, .data, .pinned], laidTests := true, laidLooks := .later }
def RedactSaltsUptoCardSaid : Prop := Claim7.holds Tryz.pinned (.plain (OpenSpec.upto redactSaltsSpec)) redactSaltsUptoCard

/-- THE SECOND FORM's CARD OF 'evergreenlaw23.RedactTexts'. -/
def redactTextsUptoCard : Claim7 := { stood := { row := redactTextsUptoRow, standIns := [], harness := (true, "488f1dd3583e3bef20361dc561b0f256697fff4a7cfd66c3831747d0ecf408f0"), looks := false }, kinds := [], alts := [], laidByText := true, laidKinds := [.data, .data, .pinned], laidTests := true, laidLooks := .later }
def RedactTextsUptoCardSaid : Prop := Claim7.holds Tryz.pinned (.plain (OpenSpec.upto redactTextsSpec)) redactTextsUptoCard
end Rows
end Go.Proofs.YtakhomofckcckaaGreatDoor
