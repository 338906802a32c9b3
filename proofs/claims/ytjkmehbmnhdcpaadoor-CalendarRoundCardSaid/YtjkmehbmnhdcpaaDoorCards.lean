/-
  DERIVED. GIVEN WITH THE SEED: THE CARDS: each row of YtjkmehbmnhdcpaaDoorRows.lean that lists a variable, with what it lists TIED to the program's text (the seventh form; the later family's looks); each row that meets fmt, with fmt's text TOLD by the authors' own Lean function (tested against real Go, not proved from fmt's source: count such statements apart). THE CARD IS WHAT COUNTS. Prove the row's statement (the work); the ties are given (YtjkmehbmnhdcpaaDoorTie.lean); close each card by the builder's one call (the guide's Derived/Test/ToyasCard.lean, 'card_holds'). Laid BY PROGRAM, IN A SANDBOX (cutbox-door.mjs). By AI agents, Wed Nov 11 2026. No macro, syntax, notation, axiom, sorry.
-/
import Derived.Test.YtjkmehbmnhdcpaaDoorRows
import GoSem.ClaimSeven
namespace Go.Proofs.YtjkmehbmnhdcpaaDoor
namespace Rows

/-- THE TIED CARD OF 'portkeep2.CalendarRound'. -/
def calendarRoundCard : Claim7 := { stood := { row := calendarRoundRow, standIns := [], harness := (true, "c11e8f7136854e5e617748551349aa1590dbc08a254a4d171ebbb428093f51a5"), looks := true }, kinds := [], alts := [], laidByText := true, laidKinds := [.data, .data, .data, .data, .sentinel, .sentinel, .pinned], laidTests := true, laidLooks := .later }
def CalendarRoundCardSaid : Prop := Claim7.holds Tryd.pinned (.plain (OpenSpec.ofChange calendarRoundSpec)) calendarRoundCard

/-- THE SECOND FORM's CARD OF 'portkeep2.CalendarRound'. -/
def calendarRoundUptoCard : Claim7 := { stood := { row := calendarRoundUptoRow, standIns := [], harness := (true, "c11e8f7136854e5e617748551349aa1590dbc08a254a4d171ebbb428093f51a5"), looks := true }, kinds := [], alts := [], laidByText := true, laidKinds := [.data, .data, .data, .data, .sentinel, .sentinel, .pinned], laidTests := true, laidLooks := .later }
def CalendarRoundUptoCardSaid : Prop := Claim7.holds Tryd.pinned (.plain (OpenSpec.upto calendarRoundSpec)) calendarRoundUptoCard
end Rows
end Go.Proofs.YtjkmehbmnhdcpaaDoor
