/-
  DERIVED. GIVEN WITH THE SEED: THE CARDS: each row of YtllcgcnebofdoaaGreatDoorRows.lean that lists a variable, with what it lists TIED to the program's text (the seventh form; the later family's looks); each row that meets fmt, with fmt's text TOLD by the authors' own Lean function (tested against real Go, not proved from fmt's source: count such statements apart). THE CARD IS WHAT COUNTS. Prove the row's statement (the work); the ties are given (YtllcgcnebofdoaaGreatDoorTie.lean); close each card by the builder's one call (the guide's Derived/Test/ToyasCard.lean, 'card_holds'). Laid BY PROGRAM, IN A SANDBOX (cutbox-door.mjs). By AI agents, Wed Nov 11 2026. No macro, syntax, notation, axiom, sorry.
-/
import Derived.Test.YtllcgcnebofdoaaGreatDoorRows
import GoSem.ClaimSeven
namespace Go.Proofs.YtllcgcnebofdoaaGreatDoor
namespace Rows

/-- THE TIED CARD OF 'portkeep2.ClockRound'. -/
def clockRoundCard : Claim7 := { stood := { row := clockRoundRow, standIns := [], harness := (true, "e0ea7e0707fb324c7613616c2a8daef591cf6f0f9b70d8877891c18d022ced30"), looks := true }, kinds := [], alts := [], laidByText := true, laidKinds := [.data, .data, .data, .data, .sentinel, .sentinel, .pinned], laidTests := true, laidLooks := .later }
def ClockRoundCardSaid : Prop := Claim7.holds Tryz.pinned (.plain (OpenSpec.ofChange clockRoundSpec)) clockRoundCard

/-- THE TIED CARD OF 'portkeep2.ClockIdle'. -/
def clockIdleCard : Claim7 := { stood := { row := clockIdleRow, standIns := [], harness := (true, "e0ea7e0707fb324c7613616c2a8daef591cf6f0f9b70d8877891c18d022ced30"), looks := true }, kinds := [], alts := [], laidByText := true, laidKinds := [.data, .data, .data, .data, .sentinel, .sentinel, .pinned], laidTests := true, laidLooks := .later }
def ClockIdleCardSaid : Prop := Claim7.holds Tryz.pinned (.plain (OpenSpec.ofChange clockIdleSpec)) clockIdleCard

/-- THE TIED CARD OF 'porttop.TopClocks'. -/
def topClocksCard : Claim7 := { stood := { row := topClocksRow, standIns := [], harness := (true, "e0ea7e0707fb324c7613616c2a8daef591cf6f0f9b70d8877891c18d022ced30"), looks := true }, kinds := [], alts := [], laidByText := true, laidKinds := [.data, .data, .data, .data, .sentinel, .sentinel, .pinned], laidTests := true, laidLooks := .later }
def TopClocksCardSaid : Prop := Claim7.holds Tryz.pinned (.plain (OpenSpec.ofChange topClocksSpec)) topClocksCard

/-- THE SECOND FORM's CARD OF 'portkeep2.ClockRound'. -/
def clockRoundUptoCard : Claim7 := { stood := { row := clockRoundUptoRow, standIns := [], harness := (true, "e0ea7e0707fb324c7613616c2a8daef591cf6f0f9b70d8877891c18d022ced30"), looks := true }, kinds := [], alts := [], laidByText := true, laidKinds := [.data, .data, .data, .data, .sentinel, .sentinel, .pinned], laidTests := true, laidLooks := .later }
def ClockRoundUptoCardSaid : Prop := Claim7.holds Tryz.pinned (.plain (OpenSpec.upto clockRoundSpec)) clockRoundUptoCard

/-- THE SECOND FORM's CARD OF 'portkeep2.ClockIdle'. -/
def clockIdleUptoCard : Claim7 := { stood := { row := clockIdleUptoRow, standIns := [], harness := (true, "e0ea7e0707fb324c7613616c2a8daef591cf6f0f9b70d8877891c18d022ced30"), looks := true }, kinds := [], alts := [], laidByText := true, laidKinds := [.data, .data, .data, .data, .sentinel, .sentinel, .pinned], laidTests := true, laidLooks := .later }
def ClockIdleUptoCardSaid : Prop := Claim7.holds Tryz.pinned (.plain (OpenSpec.upto clockIdleSpec)) clockIdleUptoCard

/-- THE SECOND FORM's CARD OF 'porttop.TopClocks'. -/
def topClocksUptoCard : Claim7 := { stood := { row := topClocksUptoRow, standIns := [], harness := (true, "e0ea7e0707fb324c7613616c2a8daef591cf6f0f9b70d8877891c18d022ced30"), looks := true }, kinds := [], alts := [], laidByText := true, laidKinds := [.data, .data, .data, .data, .sentinel, .sentinel, .pinned], laidTests := true, laidLooks := .later }
def TopClocksUptoCardSaid : Prop := Claim7.holds Tryz.pinned (.plain (OpenSpec.upto topClocksSpec)) topClocksUptoCard
end Rows
end Go.Proofs.YtllcgcnebofdoaaGreatDoor
