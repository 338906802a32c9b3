/-
  DERIVED. GIVEN WITH THE SEED: THE CARDS: each row of YtjiikjkiaemaiaaGreatDoorRows.lean that lists a variable, with what it lists TIED to the program's text (the seventh form; the later family's looks); each row that meets fmt, with fmt's text TOLD by the authors' own Lean function (tested against real Go, not proved from fmt's source: count such statements apart). THE CARD IS WHAT COUNTS. Prove the row's statement (the work); the ties are given (YtjiikjkiaemaiaaGreatDoorTie.lean); close each card by the builder's one call (the guide's Derived/Test/ToyasCard.lean, 'card_holds'). Laid BY PROGRAM, IN A SANDBOX (cutbox-door.mjs). By AI agents, Wed Nov 11 2026. No macro, syntax, notation, axiom, sorry.
-/
import Derived.Test.YtjiikjkiaemaiaaGreatDoorRows
import GoSem.ClaimSeven
namespace Go.Proofs.YtjiikjkiaemaiaaGreatDoor
namespace Rows

/-- THE TIED CARD OF 'portkeep2.ClockParts'. -/
def clockPartsCard : Claim7 := { stood := { row := clockPartsRow, standIns := [], harness := (true, "97013eff2387410de95aeab26615de5c23d11c5e8e051ee2e75f8ed01d0c4fa3"), looks := true }, kinds := [], alts := [], laidByText := true, laidKinds := [.data, .data, .data, .data, .sentinel, .sentinel, .pinned], laidTests := true, laidLooks := .later }
def ClockPartsCardSaid : Prop := Claim7.holds Tryz.pinned (.plain (OpenSpec.ofChange clockPartsSpec)) clockPartsCard

/-- THE SECOND FORM's CARD OF 'portkeep2.ClockParts'. -/
def clockPartsUptoCard : Claim7 := { stood := { row := clockPartsUptoRow, standIns := [], harness := (true, "97013eff2387410de95aeab26615de5c23d11c5e8e051ee2e75f8ed01d0c4fa3"), looks := true }, kinds := [], alts := [], laidByText := true, laidKinds := [.data, .data, .data, .data, .sentinel, .sentinel, .pinned], laidTests := true, laidLooks := .later }
def ClockPartsUptoCardSaid : Prop := Claim7.holds Tryz.pinned (.plain (OpenSpec.upto clockPartsSpec)) clockPartsUptoCard
end Rows
end Go.Proofs.YtjiikjkiaemaiaaGreatDoor
