/-
  DERIVED. GIVEN WITH THE SEED: THE CARDS: each row of YtbafldhhhbdhhaaDoorRows.lean that lists a variable, with what it lists TIED to the program's text (the seventh form; the later family's looks); each row that meets fmt, with fmt's text TOLD by the authors' own Lean function (tested against real Go, not proved from fmt's source: count such statements apart). THE CARD IS WHAT COUNTS. Prove the row's statement (the work); the ties are given (YtbafldhhhbdhhaaDoorTie.lean); close each card by the builder's one call (the guide's Derived/Test/ToyasCard.lean, 'card_holds'). Laid BY PROGRAM, IN A SANDBOX (cutbox-door.mjs). By AI agents, Wed Nov 11 2026. No macro, syntax, notation, axiom, sorry.
-/
import Derived.Test.YtbafldhhhbdhhaaDoorRows
import GoSem.ClaimSeven
namespace Go.Proofs.YtbafldhhhbdhhaaDoor
namespace Rows

/-- THE TIED CARD OF 'portkeep2.CalRound'. -/
def calRoundCard : Claim7 := { stood := { row := calRoundRow, standIns := [], harness := (true, "a8b9f53f1a5af8310f263b6ff656adae6f5dead3f94a541e3c827ca71f900a00"), looks := true }, kinds := [], alts := [], laidByText := true, laidKinds := [.data, .data, .data, .sentinel, .sentinel], laidTests := true, laidLooks := .later }
def CalRoundCardSaid : Prop := Claim7.holds Tryd.pinned (.plain (OpenSpec.ofChange calRoundSpec)) calRoundCard

/-- THE TIED CARD OF 'portkeep2.CalendarRound'. -/
def calendarRoundCard : Claim7 := { stood := { row := calendarRoundRow, standIns := [], harness := (true, "a8b9f53f1a5af8310f263b6ff656adae6f5dead3f94a541e3c827ca71f900a00"), looks := true }, kinds := [], alts := [], laidByText := true, laidKinds := [.data, .data, .data, .data, .sentinel, .sentinel, .pinned], laidTests := true, laidLooks := .later }
def CalendarRoundCardSaid : Prop := Claim7.holds Tryd.pinned (.plain (OpenSpec.ofChange calendarRoundSpec)) calendarRoundCard

/-- THE SECOND FORM's CARD OF 'portkeep2.CalRound'. -/
def calRoundUptoCard : Claim7 := { stood := { row := calRoundUptoRow, standIns := [], harness := (true, "a8b9f53f1a5af8310f263b6ff656adae6f5dead3f94a541e3c827ca71f900a00"), looks := true }, kinds := [], alts := [], laidByText := true, laidKinds := [.data, .data, .data, .sentinel, .sentinel], laidTests := true, laidLooks := .later }
def CalRoundUptoCardSaid : Prop := Claim7.holds Tryd.pinned (.plain (OpenSpec.upto calRoundSpec)) calRoundUptoCard

/-- THE SECOND FORM's CARD OF 'portkeep2.CalendarRound'. -/
def calendarRoundUptoCard : Claim7 := { stood := { row := calendarRoundUptoRow, standIns := [], harness := (true, "a8b9f53f1a5af8310f263b6ff656adae6f5dead3f94a541e3c827ca71f900a00"), looks := true }, kinds := [], alts := [], laidByText := true, laidKinds := [.data, .data, .data, .data, .sentinel, .sentinel, .pinned], laidTests := true, laidLooks := .later }
def CalendarRoundUptoCardSaid : Prop := Claim7.holds Tryd.pinned (.plain (OpenSpec.upto calendarRoundSpec)) calendarRoundUptoCard
end Rows
end Go.Proofs.YtbafldhhhbdhhaaDoor
