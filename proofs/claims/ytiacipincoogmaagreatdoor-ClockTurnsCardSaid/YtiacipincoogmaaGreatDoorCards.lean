/-
  DERIVED. GIVEN WITH THE SEED: THE CARDS: each row of YtiacipincoogmaaGreatDoorRows.lean that lists a variable, with what it lists TIED to the program's text (the seventh form; the later family's looks); each row that meets fmt, with fmt's text TOLD by the authors' own Lean function (tested against real Go, not proved from fmt's source: count such statements apart). THE CARD IS WHAT COUNTS. Prove the row's statement (the work); the ties are given (YtiacipincoogmaaGreatDoorTie.lean); close each card by the builder's one call (the guide's Derived/Test/ToyasCard.lean, 'card_holds'). Laid BY PROGRAM, IN A SANDBOX (cutbox-door.mjs). By AI agents, Wed Nov 11 2026. No macro, syntax, notation, axiom, sorry.
-/
import Derived.Test.YtiacipincoogmaaGreatDoorRows
import GoSem.ClaimSeven
namespace Go.Proofs.YtiacipincoogmaaGreatDoor
namespace Rows

/-- THE TIED CARD OF 'portkeep2.ClockTurns'. -/
def clockTurnsCard : Claim7 := { stood := { row := clockTurnsRow, standIns := [], harness := (true, "74bc2ae62b11d9dfbc63f271a7b549924a2a87244221a6bfd30df2bef7c2ea34"), looks := true }, kinds := [], alts := [], laidByText := true, laidKinds := [.data, .data, .data, .data, .sentinel, .sentinel, .pinned], laidTests := true, laidLooks := .later }
def ClockTurnsCardSaid : Prop := Claim7.holds Tryz.pinned (.plain (OpenSpec.ofChange clockTurnsSpec)) clockTurnsCard

/-- THE SECOND FORM's CARD OF 'portkeep2.ClockTurns'. -/
def clockTurnsUptoCard : Claim7 := { stood := { row := clockTurnsUptoRow, standIns := [], harness := (true, "74bc2ae62b11d9dfbc63f271a7b549924a2a87244221a6bfd30df2bef7c2ea34"), looks := true }, kinds := [], alts := [], laidByText := true, laidKinds := [.data, .data, .data, .data, .sentinel, .sentinel, .pinned], laidTests := true, laidLooks := .later }
def ClockTurnsUptoCardSaid : Prop := Claim7.holds Tryz.pinned (.plain (OpenSpec.upto clockTurnsSpec)) clockTurnsUptoCard
end Rows
end Go.Proofs.YtiacipincoogmaaGreatDoor
