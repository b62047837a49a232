/-
  DERIVED. GIVEN WITH THE SEED: THE CARDS: each row of YtaogafgadgppnaaDoorRows.lean that lists a variable, with what it lists TIED to the program's text (the seventh form; the later family's looks); each row that meets fmt, with fmt's text TOLD by the authors' own Lean function (tested against real Go, not proved from fmt's source: count such statements apart). THE CARD IS WHAT COUNTS. Prove the row's statement (the work); the ties are given (YtaogafgadgppnaaDoorTie.lean); close each card by the builder's one call (the guide's Derived/Test/ToyasCard.lean, 'card_holds'). Laid BY PROGRAM, IN A SANDBOX (cutbox-door.mjs). By AI agents, Wed Nov 11 2026. No macro, syntax, notation, axiom, sorry.
-/
import Derived.Test.YtaogafgadgppnaaDoorRows
import GoSem.ClaimSeven
namespace Go.Proofs.YtaogafgadgppnaaDoor
namespace Rows

/-- THE TIED CARD OF 'recyclinglaw03.ClockFormats'. -/
def clockFormatsCard : Claim7 := { stood := { row := clockFormatsRow, standIns := [], harness := (true, "e1ae869eb606bf9b706272e20c2c6967694e290e6333e3a975a6d74ceea725a8"), looks := false }, kinds := [], alts := [], laidByText := true, laidKinds := [.data, .data, .data], laidTests := true, laidLooks := .later }
def ClockFormatsCardSaid : Prop := Claim7.holds Tryd.pinned (.plain (OpenSpec.ofChange clockFormatsSpec)) clockFormatsCard

/-- THE TIED CARD OF 'recyclinglaw03.ClockRoundTrip'. -/
def clockRoundTripCard : Claim7 := { stood := { row := clockRoundTripRow, standIns := [], harness := (true, "e1ae869eb606bf9b706272e20c2c6967694e290e6333e3a975a6d74ceea725a8"), looks := false }, kinds := [], alts := [], laidByText := true, laidKinds := [.data, .data, .data], laidTests := true, laidLooks := .later }
def ClockRoundTripCardSaid : Prop := Claim7.holds Tryd.pinned (.plain (OpenSpec.ofChange clockRoundTripSpec)) clockRoundTripCard

/-- THE TIED CARD OF 'recyclinglaw03.ClockDates'. -/
def clockDatesCard : Claim7 := { stood := { row := clockDatesRow, standIns := [], harness := (true, "e1ae869eb606bf9b706272e20c2c6967694e290e6333e3a975a6d74ceea725a8"), looks := false }, kinds := [], alts := [], laidByText := true, laidKinds := [.data, .data, .data], laidTests := true, laidLooks := .later }
def ClockDatesCardSaid : Prop := Claim7.holds Tryd.pinned (.plain (OpenSpec.ofChange clockDatesSpec)) clockDatesCard

/-- THE TIED CARD OF 'recyclinglaw03.ClockOpens'. -/
def clockOpensCard : Claim7 := { stood := { row := clockOpensRow, standIns := [], harness := (true, "e1ae869eb606bf9b706272e20c2c6967694e290e6333e3a975a6d74ceea725a8"), looks := false }, kinds := [], alts := [], laidByText := true, laidKinds := [.data, .data, .data], laidTests := true, laidLooks := .later }
def ClockOpensCardSaid : Prop := Claim7.holds Tryd.pinned (.plain (OpenSpec.ofChange clockOpensSpec)) clockOpensCard

/-- THE TIED CARD OF 'recyclinglaw03.ClockNext'. -/
def clockNextCard : Claim7 := { stood := { row := clockNextRow, standIns := [], harness := (true, "e1ae869eb606bf9b706272e20c2c6967694e290e6333e3a975a6d74ceea725a8"), looks := false }, kinds := [], alts := [], laidByText := true, laidKinds := [.data, .data, .data], laidTests := true, laidLooks := .later }
def ClockNextCardSaid : Prop := Claim7.holds Tryd.pinned (.plain (OpenSpec.ofChange clockNextSpec)) clockNextCard

/-- THE TIED CARD OF 'recyclinglaw03.ClockUnions'. -/
def clockUnionsCard : Claim7 := { stood := { row := clockUnionsRow, standIns := [], harness := (true, "e1ae869eb606bf9b706272e20c2c6967694e290e6333e3a975a6d74ceea725a8"), looks := false }, kinds := [], alts := [], laidByText := true, laidKinds := [.data, .data, .data], laidTests := true, laidLooks := .later }
def ClockUnionsCardSaid : Prop := Claim7.holds Tryd.pinned (.plain (OpenSpec.ofChange clockUnionsSpec)) clockUnionsCard

/-- THE TIED CARD OF 'recyclinglaw03.ClockMerge'. -/
def clockMergeCard : Claim7 := { stood := { row := clockMergeRow, standIns := [], harness := (true, "e1ae869eb606bf9b706272e20c2c6967694e290e6333e3a975a6d74ceea725a8"), looks := false }, kinds := [], alts := [], laidByText := true, laidKinds := [.data, .data, .data], laidTests := true, laidLooks := .later }
def ClockMergeCardSaid : Prop := Claim7.holds Tryd.pinned (.plain (OpenSpec.ofChange clockMergeSpec)) clockMergeCard

/-- THE TIED CARD OF 'recyclinglaw03.ClockCommons'. -/
def clockCommonsCard : Claim7 := { stood := { row := clockCommonsRow, standIns := [], harness := (true, "e1ae869eb606bf9b706272e20c2c6967694e290e6333e3a975a6d74ceea725a8"), looks := false }, kinds := [], alts := [], laidByText := true, laidKinds := [.data, .data, .data], laidTests := true, laidLooks := .later }
def ClockCommonsCardSaid : Prop := Claim7.holds Tryd.pinned (.plain (OpenSpec.ofChange clockCommonsSpec)) clockCommonsCard

/-- THE TIED CARD OF 'recyclinglaw03.ClockShared'. -/
def clockSharedCard : Claim7 := { stood := { row := clockSharedRow, standIns := [], harness := (true, "e1ae869eb606bf9b706272e20c2c6967694e290e6333e3a975a6d74ceea725a8"), looks := false }, kinds := [], alts := [], laidByText := true, laidKinds := [.data, .data, .data], laidTests := true, laidLooks := .later }
def ClockSharedCardSaid : Prop := Claim7.holds Tryd.pinned (.plain (OpenSpec.ofChange clockSharedSpec)) clockSharedCard

/-- THE SECOND FORM's CARD OF 'recyclinglaw03.ClockFormats'. -/
def clockFormatsUptoCard : Claim7 := { stood := { row := clockFormatsUptoRow, standIns := [], harness := (true, "e1ae869eb606bf9b706272e20c2c6967694e290e6333e3a975a6d74ceea725a8"), looks := false }, kinds := [], alts := [], laidByText := true, laidKinds := [.data, .data, .data], laidTests := true, laidLooks := .later }
def ClockFormatsUptoCardSaid : Prop := Claim7.holds Tryd.pinned (.plain (OpenSpec.upto clockFormatsSpec)) clockFormatsUptoCard

/-- THE SECOND FORM's CARD OF 'recyclinglaw03.ClockRoundTrip'. -/
def clockRoundTripUptoCard : Claim7 := { stood := { row := clockRoundTripUptoRow, standIns := [], harness := (true, "e1ae869eb606bf9b706272e20c2c6967694e290e6333e3a975a6d74ceea725a8"), looks := false }, kinds := [], alts := [], laidByText := true, laidKinds := [.data, .data, .data], laidTests := true, laidLooks := .later }
def ClockRoundTripUptoCardSaid : Prop := Claim7.holds Tryd.pinned (.plain (OpenSpec.upto clockRoundTripSpec)) clockRoundTripUptoCard

/-- THE SECOND FORM's CARD OF 'recyclinglaw03.ClockDates'. -/
def clockDatesUptoCard : Claim7 := { stood := { row := clockDatesUptoRow, standIns := [], harness := (true, "e1ae869eb606bf9b706272e20c2c6967694e290e6333e3a975a6d74ceea725a8"), looks := false }, kinds := [], alts := [], laidByText := true, laidKinds := [.data, .data, .data], laidTests := true, laidLooks := .later }
def ClockDatesUptoCardSaid : Prop := Claim7.holds Tryd.pinned (.plain (OpenSpec.upto clockDatesSpec)) clockDatesUptoCard

/-- THE SECOND FORM's CARD OF 'recyclinglaw03.ClockOpens'. -/
def clockOpensUptoCard : Claim7 := { stood := { row := clockOpensUptoRow, standIns := [], harness := (true, "e1ae869eb606bf9b706272e20c2c6967694e290e6333e3a975a6d74ceea725a8"), looks := false }, kinds := [], alts := [], laidByText := true, laidKinds := [.data, .data, .data], laidTests := true, laidLooks := .later }
def ClockOpensUptoCardSaid : Prop := Claim7.holds Tryd.pinned (.plain (OpenSpec.upto clockOpensSpec)) clockOpensUptoCard

/-- THE SECOND FORM's CARD OF 'recyclinglaw03.ClockNext'. -/
def clockNextUptoCard : Claim7 := { stood := { row := clockNextUptoRow, standIns := [], harness := (true, "e1ae869eb606bf9b706272e20c2c6967694e290e6333e3a975a6d74ceea725a8"), looks := false }, kinds := [], alts := [], laidByText := true, laidKinds := [.data, .data, .data], laidTests := true, laidLooks := .later }
def ClockNextUptoCardSaid : Prop := Claim7.holds Tryd.pinned (.plain (OpenSpec.upto clockNextSpec)) clockNextUptoCard

/-- THE SECOND FORM's CARD OF 'recyclinglaw03.ClockUnions'. -/
def clockUnionsUptoCard : Claim7 := { stood := { row := clockUnionsUptoRow, standIns := [], harness := (true, "e1ae869eb606bf9b706272e20c2c6967694e290e6333e3a975a6d74ceea725a8"), looks := false }, kinds := [], alts := [], laidByText := true, laidKinds := [.data, .data, .data], laidTests := true, laidLooks := .later }
def ClockUnionsUptoCardSaid : Prop := Claim7.holds Tryd.pinned (.plain (OpenSpec.upto clockUnionsSpec)) clockUnionsUptoCard

/-- THE SECOND FORM's CARD OF 'recyclinglaw03.ClockMerge'. -/
def clockMergeUptoCard : Claim7 := { stood := { row := clockMergeUptoRow, standIns := [], harness := (true, "e1ae869eb606bf9b706272e20c2c6967694e290e6333e3a975a6d74ceea725a8"), looks := false }, kinds := [], alts := [], laidByText := true, laidKinds := [.data, .data, .data], laidTests := true, laidLooks := .later }
def ClockMergeUptoCardSaid : Prop := Claim7.holds Tryd.pinned (.plain (OpenSpec.upto clockMergeSpec)) clockMergeUptoCard

/-- THE SECOND FORM's CARD OF 'recyclinglaw03.ClockCommons'. -/
def clockCommonsUptoCard : Claim7 := { stood := { row := clockCommonsUptoRow, standIns := [], harness := (true, "e1ae869eb606bf9b706272e20c2c6967694e290e6333e3a975a6d74ceea725a8"), looks := false }, kinds := [], alts := [], laidByText := true, laidKinds := [.data, .data, .data], laidTests := true, laidLooks := .later }
def ClockCommonsUptoCardSaid : Prop := Claim7.holds Tryd.pinned (.plain (OpenSpec.upto clockCommonsSpec)) clockCommonsUptoCard

/-- THE SECOND FORM's CARD OF 'recyclinglaw03.ClockShared'. -/
def clockSharedUptoCard : Claim7 := { stood := { row := clockSharedUptoRow, standIns := [], harness := (true, "e1ae869eb606bf9b706272e20c2c6967694e290e6333e3a975a6d74ceea725a8"), looks := false }, kinds := [], alts := [], laidByText := true, laidKinds := [.data, .data, .data], laidTests := true, laidLooks := .later }
def ClockSharedUptoCardSaid : Prop := Claim7.holds Tryd.pinned (.plain (OpenSpec.upto clockSharedSpec)) clockSharedUptoCard
end Rows
end Go.Proofs.YtaogafgadgppnaaDoor
