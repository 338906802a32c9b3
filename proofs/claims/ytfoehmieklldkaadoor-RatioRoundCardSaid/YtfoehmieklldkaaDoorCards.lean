/-
  DERIVED. GIVEN WITH THE SEED: THE CARDS: each row of YtfoehmieklldkaaDoorRows.lean that lists a variable, with what it lists TIED to the program's text (the seventh form; the later family's looks); each row that meets fmt, with fmt's text TOLD by the authors' own Lean function (tested against real Go, not proved from fmt's source: count such statements apart). THE CARD IS WHAT COUNTS. Prove the row's statement (the work); the ties are given (YtfoehmieklldkaaDoorTie.lean); close each card by the builder's one call (the guide's Derived/Test/ToyasCard.lean, 'card_holds'). Laid BY PROGRAM, IN A SANDBOX (cutbox-door.mjs). By AI agents, Wed Nov 11 2026. No macro, syntax, notation, axiom, sorry.
-/
import Derived.Test.YtfoehmieklldkaaDoorRows
import GoSem.ClaimSeven
namespace Go.Proofs.YtfoehmieklldkaaDoor
namespace Rows

/-- THE TIED CARD OF 'portkeep2.StaffGrows'. -/
def staffGrowsCard : Claim7 := { stood := { row := staffGrowsRow, standIns := [], harness := (true, "1619d9214cd476d45be4b8c9bd8946274a3e37840f9efa3b75962f23d278beb8"), looks := true }, kinds := [], alts := [], laidByText := true, laidKinds := [.data, .data, .data], laidTests := true, laidLooks := .later }
def StaffGrowsCardSaid : Prop := Claim7.holds Tryd.pinned (.plain (OpenSpec.ofChange staffGrowsSpec)) staffGrowsCard

/-- THE TIED CARD OF 'portkeep2.PlanLeast'. -/
def planLeastCard : Claim7 := { stood := { row := planLeastRow, standIns := [], harness := (true, "1619d9214cd476d45be4b8c9bd8946274a3e37840f9efa3b75962f23d278beb8"), looks := true }, kinds := [], alts := [], laidByText := true, laidKinds := [.data, .data, .data], laidTests := true, laidLooks := .later }
def PlanLeastCardSaid : Prop := Claim7.holds Tryd.pinned (.plain (OpenSpec.ofChange planLeastSpec)) planLeastCard

/-- THE TIED CARD OF 'portkeep2.RatioRound'. -/
def ratioRoundCard : Claim7 := { stood := { row := ratioRoundRow, standIns := [], harness := (true, "1619d9214cd476d45be4b8c9bd8946274a3e37840f9efa3b75962f23d278beb8"), looks := true }, kinds := [], alts := [], laidByText := true, laidKinds := [.data, .data, .data, .sentinel, .sentinel], laidTests := true, laidLooks := .later }
def RatioRoundCardSaid : Prop := Claim7.holds Tryd.pinned (.plain (OpenSpec.ofChange ratioRoundSpec)) ratioRoundCard

/-- THE TIED CARD OF 'porttop.TopRosters'. -/
def topRostersCard : Claim7 := { stood := { row := topRostersRow, standIns := [], harness := (true, "1619d9214cd476d45be4b8c9bd8946274a3e37840f9efa3b75962f23d278beb8"), looks := true }, kinds := [], alts := [], laidByText := true, laidKinds := [.data, .data, .data], laidTests := true, laidLooks := .later }
def TopRostersCardSaid : Prop := Claim7.holds Tryd.pinned (.plain (OpenSpec.ofChange topRostersSpec)) topRostersCard

/-- THE TIED CARD OF 'portkeep2.RosterRight'. -/
def rosterRightCard : Claim7 := { stood := { row := rosterRightRow, standIns := [], harness := (true, "1619d9214cd476d45be4b8c9bd8946274a3e37840f9efa3b75962f23d278beb8"), looks := true }, kinds := [], alts := [], laidByText := true, laidKinds := [.data, .data, .data], laidTests := true, laidLooks := .later }
def RosterRightCardSaid : Prop := Claim7.holds Tryd.pinned (.plain (OpenSpec.ofChange rosterRightSpec)) rosterRightCard

/-- THE SECOND FORM's CARD OF 'portkeep2.StaffGrows'. -/
def staffGrowsUptoCard : Claim7 := { stood := { row := staffGrowsUptoRow, standIns := [], harness := (true, "1619d9214cd476d45be4b8c9bd8946274a3e37840f9efa3b75962f23d278beb8"), looks := true }, kinds := [], alts := [], laidByText := true, laidKinds := [.data, .data, .data], laidTests := true, laidLooks := .later }
def StaffGrowsUptoCardSaid : Prop := Claim7.holds Tryd.pinned (.plain (OpenSpec.upto staffGrowsSpec)) staffGrowsUptoCard

/-- THE SECOND FORM's CARD OF 'portkeep2.PlanLeast'. -/
def planLeastUptoCard : Claim7 := { stood := { row := planLeastUptoRow, standIns := [], harness := (true, "1619d9214cd476d45be4b8c9bd8946274a3e37840f9efa3b75962f23d278beb8"), looks := true }, kinds := [], alts := [], laidByText := true, laidKinds := [.data, .data, .data], laidTests := true, laidLooks := .later }
def PlanLeastUptoCardSaid : Prop := Claim7.holds Tryd.pinned (.plain (OpenSpec.upto planLeastSpec)) planLeastUptoCard

/-- THE SECOND FORM's CARD OF 'portkeep2.RatioRound'. -/
def ratioRoundUptoCard : Claim7 := { stood := { row := ratioRoundUptoRow, standIns := [], harness := (true, "1619d9214cd476d45be4b8c9bd8946274a3e37840f9efa3b75962f23d278beb8"), looks := true }, kinds := [], alts := [], laidByText := true, laidKinds := [.data, .data, .data, .sentinel, .sentinel], laidTests := true, laidLooks := .later }
def RatioRoundUptoCardSaid : Prop := Claim7.holds Tryd.pinned (.plain (OpenSpec.upto ratioRoundSpec)) ratioRoundUptoCard

/-- THE SECOND FORM's CARD OF 'porttop.TopRosters'. -/
def topRostersUptoCard : Claim7 := { stood := { row := topRostersUptoRow, standIns := [], harness := (true, "1619d9214cd476d45be4b8c9bd8946274a3e37840f9efa3b75962f23d278beb8"), looks := true }, kinds := [], alts := [], laidByText := true, laidKinds := [.data, .data, .data], laidTests := true, laidLooks := .later }
def TopRostersUptoCardSaid : Prop := Claim7.holds Tryd.pinned (.plain (OpenSpec.upto topRostersSpec)) topRostersUptoCard

/-- THE SECOND FORM's CARD OF 'portkeep2.RosterRight'. -/
def rosterRightUptoCard : Claim7 := { stood := { row := rosterRightUptoRow, standIns := [], harness := (true, "1619d9214cd476d45be4b8c9bd8946274a3e37840f9efa3b75962f23d278beb8"), looks := true }, kinds := [], alts := [], laidByText := true, laidKinds := [.data, .data, .data], laidTests := true, laidLooks := .later }
def RosterRightUptoCardSaid : Prop := Claim7.holds Tryd.pinned (.plain (OpenSpec.upto rosterRightSpec)) rosterRightUptoCard
end Rows
end Go.Proofs.YtfoehmieklldkaaDoor
