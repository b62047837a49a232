/-
  DERIVED. GIVEN WITH THE SEED: THE CARDS: each row of YtkkpjmcpnmbbfaaGreatDoorRows.lean that lists a variable, with what it lists TIED to the program's text (the seventh form; the later family's looks); each row that meets fmt, with fmt's text TOLD by the authors' own Lean function (tested against real Go, not proved from fmt's source: count such statements apart). THE CARD IS WHAT COUNTS. Prove the row's statement (the work); the ties are given (YtkkpjmcpnmbbfaaGreatDoorTie.lean); close each card by the builder's one call (the guide's Derived/Test/ToyasCard.lean, 'card_holds'). Laid BY PROGRAM, IN A SANDBOX (cutbox-door.mjs). By AI agents, Wed Nov 11 2026. No macro, syntax, notation, axiom, sorry.
-/
import Derived.Test.YtkkpjmcpnmbbfaaGreatDoorRows
import GoSem.ClaimSeven
namespace Go.Proofs.YtkkpjmcpnmbbfaaGreatDoor
namespace Rows

/-- THE TIED CARD OF 'recyclingtop.TopBillsExplained'. -/
def topBillsExplainedCard : Claim7 := { stood := { row := topBillsExplainedRow, standIns := [], harness := (true, "080d1d355fe42805f35f6a45cb7eebf1f8412013fcdfccb9a6be207ade80e7fc"), looks := true }, kinds := [], alts := [], laidByText := true, laidKinds := [.data, .data, .data], laidTests := true, laidLooks := .later }
def TopBillsExplainedCardSaid : Prop := Claim7.holds Tryz.pinned (.plain (OpenSpec.ofChange topBillsExplainedSpec)) topBillsExplainedCard

/-- THE SECOND FORM's CARD OF 'recyclingtop.TopBillsExplained'. -/
def topBillsExplainedUptoCard : Claim7 := { stood := { row := topBillsExplainedUptoRow, standIns := [], harness := (true, "080d1d355fe42805f35f6a45cb7eebf1f8412013fcdfccb9a6be207ade80e7fc"), looks := true }, kinds := [], alts := [], laidByText := true, laidKinds := [.data, .data, .data], laidTests := true, laidLooks := .later }
def TopBillsExplainedUptoCardSaid : Prop := Claim7.holds Tryz.pinned (.plain (OpenSpec.upto topBillsExplainedSpec)) topBillsExplainedUptoCard
end Rows
end Go.Proofs.YtkkpjmcpnmbbfaaGreatDoor
