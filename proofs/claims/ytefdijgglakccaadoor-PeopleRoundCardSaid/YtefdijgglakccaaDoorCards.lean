/-
  DERIVED. GIVEN WITH THE SEED: THE CARDS: each row of YtefdijgglakccaaDoorRows.lean that lists a variable, with what it lists TIED to the program's text (the seventh form; the later family's looks); each row that meets fmt, with fmt's text TOLD by the authors' own Lean function (tested against real Go, not proved from fmt's source: count such statements apart). THE CARD IS WHAT COUNTS. Prove the row's statement (the work); the ties are given (YtefdijgglakccaaDoorTie.lean); close each card by the builder's one call (the guide's Derived/Test/ToyasCard.lean, 'card_holds'). Laid BY PROGRAM, IN A SANDBOX (cutbox-door.mjs). By AI agents, Wed Nov 11 2026. No macro, syntax, notation, axiom, sorry.
-/
import Derived.Test.YtefdijgglakccaaDoorRows
import GoSem.ClaimSeven
namespace Go.Proofs.YtefdijgglakccaaDoor
namespace Rows

/-- THE TIED CARD OF 'portkeep2.PeopleRound'. -/
def peopleRoundCard : Claim7 := { stood := { row := peopleRoundRow, standIns := [], harness := (true, "76ed8f38bc603fde650cd3d6838fe7e1ca2fa1e28c592486cd3f02d89354c2bb"), looks := true }, kinds := [], alts := [], laidByText := true, laidKinds := [.data, .data, .data, .data, .sentinel, .sentinel, .pinned], laidTests := true, laidLooks := .later }
def PeopleRoundCardSaid : Prop := Claim7.holds Tryd.pinned (.plain (OpenSpec.ofChange peopleRoundSpec)) peopleRoundCard

/-- THE SECOND FORM's CARD OF 'portkeep2.PeopleRound'. -/
def peopleRoundUptoCard : Claim7 := { stood := { row := peopleRoundUptoRow, standIns := [], harness := (true, "76ed8f38bc603fde650cd3d6838fe7e1ca2fa1e28c592486cd3f02d89354c2bb"), looks := true }, kinds := [], alts := [], laidByText := true, laidKinds := [.data, .data, .data, .data, .sentinel, .sentinel, .pinned], laidTests := true, laidLooks := .later }
def PeopleRoundUptoCardSaid : Prop := Claim7.holds Tryd.pinned (.plain (OpenSpec.upto peopleRoundSpec)) peopleRoundUptoCard
end Rows
end Go.Proofs.YtefdijgglakccaaDoor
