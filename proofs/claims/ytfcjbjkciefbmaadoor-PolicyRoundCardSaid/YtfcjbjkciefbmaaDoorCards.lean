/-
  DERIVED. GIVEN WITH THE SEED: THE CARDS: each row of YtfcjbjkciefbmaaDoorRows.lean that lists a variable, with what it lists TIED to the program's text (the seventh form; the later family's looks); each row that meets fmt, with fmt's text TOLD by the authors' own Lean function (tested against real Go, not proved from fmt's source: count such statements apart). THE CARD IS WHAT COUNTS. Prove the row's statement (the work); the ties are given (YtfcjbjkciefbmaaDoorTie.lean); close each card by the builder's one call (the guide's Derived/Test/ToyasCard.lean, 'card_holds'). Laid BY PROGRAM, IN A SANDBOX (cutbox-door.mjs). By AI agents, Wed Nov 11 2026. No macro, syntax, notation, axiom, sorry.
-/
import Derived.Test.YtfcjbjkciefbmaaDoorRows
import GoSem.ClaimSeven
namespace Go.Proofs.YtfcjbjkciefbmaaDoor
namespace Rows

/-- THE TIED CARD OF 'portkeep2.PolicyRound'. -/
def policyRoundCard : Claim7 := { stood := { row := policyRoundRow, standIns := [], harness := (true, "cf38fe929180a67c0cbf0a90f21ed36696dbb9b230969fdebaaa074a2c354d5e"), looks := true }, kinds := [], alts := [], laidByText := true, laidKinds := [.data, .data, .data, .data, .sentinel, .sentinel, .pinned], laidTests := true, laidLooks := .later }
def PolicyRoundCardSaid : Prop := Claim7.holds Tryd.pinned (.plain (OpenSpec.ofChange policyRoundSpec)) policyRoundCard

/-- THE SECOND FORM's CARD OF 'portkeep2.PolicyRound'. -/
def policyRoundUptoCard : Claim7 := { stood := { row := policyRoundUptoRow, standIns := [], harness := (true, "cf38fe929180a67c0cbf0a90f21ed36696dbb9b230969fdebaaa074a2c354d5e"), looks := true }, kinds := [], alts := [], laidByText := true, laidKinds := [.data, .data, .data, .data, .sentinel, .sentinel, .pinned], laidTests := true, laidLooks := .later }
def PolicyRoundUptoCardSaid : Prop := Claim7.holds Tryd.pinned (.plain (OpenSpec.upto policyRoundSpec)) policyRoundUptoCard
end Rows
end Go.Proofs.YtfcjbjkciefbmaaDoor
