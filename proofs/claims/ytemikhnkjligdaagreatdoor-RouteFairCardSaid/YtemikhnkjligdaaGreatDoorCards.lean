/-
  DERIVED. GIVEN WITH THE SEED: THE CARDS: each row of YtemikhnkjligdaaGreatDoorRows.lean that lists a variable, with what it lists TIED to the program's text (the seventh form; the later family's looks); each row that meets fmt, with fmt's text TOLD by the authors' own Lean function (tested against real Go, not proved from fmt's source: count such statements apart). THE CARD IS WHAT COUNTS. Prove the row's statement (the work); the ties are given (YtemikhnkjligdaaGreatDoorTie.lean); close each card by the builder's one call (the guide's Derived/Test/ToyasCard.lean, 'card_holds'). Laid BY PROGRAM, IN A SANDBOX (cutbox-door.mjs). By AI agents, Wed Nov 11 2026. No macro, syntax, notation, axiom, sorry.
-/
import Derived.Test.YtemikhnkjligdaaGreatDoorRows
import GoSem.ClaimSeven
namespace Go.Proofs.YtemikhnkjligdaaGreatDoor
namespace Rows

/-- THE TIED CARD OF 'portkeep2.RouteFair'. -/
def routeFairCard : Claim7 := { stood := { row := routeFairRow, standIns := [], harness := (true, "e24feb8e0ce792fad75951b67e757b61006edfb20099fb4de7ceaf2d87f5e632"), looks := true }, kinds := [], alts := [], laidByText := true, laidKinds := [.data, .data, .data, .data, .sentinel, .sentinel, .pinned], laidTests := true, laidLooks := .later }
def RouteFairCardSaid : Prop := Claim7.holds Tryz.pinned (.plain (OpenSpec.ofChange routeFairSpec)) routeFairCard

/-- THE SECOND FORM's CARD OF 'portkeep2.RouteFair'. -/
def routeFairUptoCard : Claim7 := { stood := { row := routeFairUptoRow, standIns := [], harness := (true, "e24feb8e0ce792fad75951b67e757b61006edfb20099fb4de7ceaf2d87f5e632"), looks := true }, kinds := [], alts := [], laidByText := true, laidKinds := [.data, .data, .data, .data, .sentinel, .sentinel, .pinned], laidTests := true, laidLooks := .later }
def RouteFairUptoCardSaid : Prop := Claim7.holds Tryz.pinned (.plain (OpenSpec.upto routeFairSpec)) routeFairUptoCard
end Rows
end Go.Proofs.YtemikhnkjligdaaGreatDoor
