/-
  DERIVED. GIVEN WITH THE SEED: THE CARDS: each row of YtogfekjopelfbaaDoorRows.lean that lists a variable, with what it lists TIED to the program's text (the seventh form; the later family's looks); each row that meets fmt, with fmt's text TOLD by the authors' own Lean function (tested against real Go, not proved from fmt's source: count such statements apart). THE CARD IS WHAT COUNTS. Prove the row's statement (the work); the ties are given (YtogfekjopelfbaaDoorTie.lean); close each card by the builder's one call (the guide's Derived/Test/ToyasCard.lean, 'card_holds'). Laid BY PROGRAM, IN A SANDBOX (cutbox-door.mjs). By AI agents, Wed Nov 11 2026. No macro, syntax, notation, axiom, sorry.
-/
import Derived.Test.YtogfekjopelfbaaDoorRows
import GoSem.ClaimSeven
namespace Go.Proofs.YtogfekjopelfbaaDoor
namespace Rows

/-- THE TIED CARD OF 'portkeep2.KnowMends'. -/
def knowMendsCard : Claim7 := { stood := { row := knowMendsRow, standIns := [], harness := (true, "82c9f7f50bd9d73ca1574abb44dd3744e9ea615eb48ab12b5c7c4a96a10ee4aa"), looks := false }, kinds := [], alts := [], laidByText := true, laidKinds := [.data, .pinned], laidTests := true, laidLooks := .later }
def KnowMendsCardSaid : Prop := Claim7.holds Tryd.pinned (.plain (OpenSpec.ofChange knowMendsSpec)) knowMendsCard

/-- THE SECOND FORM's CARD OF 'portkeep2.KnowMends'. -/
def knowMendsUptoCard : Claim7 := { stood := { row := knowMendsUptoRow, standIns := [], harness := (true, "82c9f7f50bd9d73ca1574abb44dd3744e9ea615eb48ab12b5c7c4a96a10ee4aa"), looks := false }, kinds := [], alts := [], laidByText := true, laidKinds := [.data, .pinned], laidTests := true, laidLooks := .later }
def KnowMendsUptoCardSaid : Prop := Claim7.holds Tryd.pinned (.plain (OpenSpec.upto knowMendsSpec)) knowMendsUptoCard
end Rows
end Go.Proofs.YtogfekjopelfbaaDoor
