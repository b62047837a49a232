/-
  DERIVED. GIVEN WITH THE SEED: THE CARDS: each row of YtoimcbimkfbkpaaDoorRows.lean that lists a variable, with what it lists TIED to the program's text (the seventh form; the later family's looks); each row that meets fmt, with fmt's text TOLD by the authors' own Lean function (tested against real Go, not proved from fmt's source: count such statements apart). THE CARD IS WHAT COUNTS. Prove the row's statement (the work); the ties are given (YtoimcbimkfbkpaaDoorTie.lean); close each card by the builder's one call (the guide's Derived/Test/ToyasCard.lean, 'card_holds'). Laid BY PROGRAM, IN A SANDBOX (cutbox-door.mjs). By AI agents, Wed Nov 11 2026. No macro, syntax, notation, axiom, sorry.
-/
import Derived.Test.YtoimcbimkfbkpaaDoorRows
import GoSem.ClaimSeven
namespace Go.Proofs.YtoimcbimkfbkpaaDoor
namespace Rows

/-- THE TIED CARD OF 'recyclinglaw05.FieldSplits'. -/
def fieldSplitsCard : Claim7 := { stood := { row := fieldSplitsRow, standIns := [], harness := (true, "9426a7cae00f6dd714832dd5dcf9ff2171891de516f027d097fccfc59bfa00d8"), looks := false }, kinds := [], alts := [], laidByText := true, laidKinds := [.data, .pinned], laidTests := true, laidLooks := .later }
def FieldSplitsCardSaid : Prop := Claim7.holds Tryd.pinned (.plain (OpenSpec.ofChange fieldSplitsSpec)) fieldSplitsCard

/-- THE TIED CARD OF 'recyclinglaw05.FieldJoins'. -/
def fieldJoinsCard : Claim7 := { stood := { row := fieldJoinsRow, standIns := [], harness := (true, "9426a7cae00f6dd714832dd5dcf9ff2171891de516f027d097fccfc59bfa00d8"), looks := false }, kinds := [], alts := [], laidByText := true, laidKinds := [.data, .pinned], laidTests := true, laidLooks := .later }
def FieldJoinsCardSaid : Prop := Claim7.holds Tryd.pinned (.plain (OpenSpec.ofChange fieldJoinsSpec)) fieldJoinsCard

/-- THE TIED CARD OF 'recyclinglaw05.FieldLines'. -/
def fieldLinesCard : Claim7 := { stood := { row := fieldLinesRow, standIns := [], harness := (true, "9426a7cae00f6dd714832dd5dcf9ff2171891de516f027d097fccfc59bfa00d8"), looks := false }, kinds := [], alts := [], laidByText := true, laidKinds := [.data, .pinned], laidTests := true, laidLooks := .later }
def FieldLinesCardSaid : Prop := Claim7.holds Tryd.pinned (.plain (OpenSpec.ofChange fieldLinesSpec)) fieldLinesCard

/-- THE TIED CARD OF 'recyclinglaw05.FieldNumbers'. -/
def fieldNumbersCard : Claim7 := { stood := { row := fieldNumbersRow, standIns := [], harness := (true, "9426a7cae00f6dd714832dd5dcf9ff2171891de516f027d097fccfc59bfa00d8"), looks := false }, kinds := [], alts := [], laidByText := true, laidKinds := [.data, .pinned], laidTests := true, laidLooks := .later }
def FieldNumbersCardSaid : Prop := Claim7.holds Tryd.pinned (.plain (OpenSpec.ofChange fieldNumbersSpec)) fieldNumbersCard

/-- THE TIED CARD OF 'recyclinglaw05.FieldRoundTrip'. -/
def fieldRoundTripCard : Claim7 := { stood := { row := fieldRoundTripRow, standIns := [], harness := (true, "9426a7cae00f6dd714832dd5dcf9ff2171891de516f027d097fccfc59bfa00d8"), looks := false }, kinds := [], alts := [], laidByText := true, laidKinds := [.data, .pinned], laidTests := true, laidLooks := .later }
def FieldRoundTripCardSaid : Prop := Claim7.holds Tryd.pinned (.plain (OpenSpec.ofChange fieldRoundTripSpec)) fieldRoundTripCard

/-- THE TIED CARD OF 'recyclinglaw05.FieldQuotes'. -/
def fieldQuotesCard : Claim7 := { stood := { row := fieldQuotesRow, standIns := [], harness := (true, "9426a7cae00f6dd714832dd5dcf9ff2171891de516f027d097fccfc59bfa00d8"), looks := false }, kinds := [], alts := [], laidByText := true, laidKinds := [.data, .pinned], laidTests := true, laidLooks := .later }
def FieldQuotesCardSaid : Prop := Claim7.holds Tryd.pinned (.plain (OpenSpec.ofChange fieldQuotesSpec)) fieldQuotesCard

/-- THE TIED CARD OF 'recyclinglaw05.FieldText'. -/
def fieldTextCard : Claim7 := { stood := { row := fieldTextRow, standIns := [], harness := (true, "9426a7cae00f6dd714832dd5dcf9ff2171891de516f027d097fccfc59bfa00d8"), looks := false }, kinds := [], alts := [], laidByText := true, laidKinds := [.data, .pinned], laidTests := true, laidLooks := .later }
def FieldTextCardSaid : Prop := Claim7.holds Tryd.pinned (.plain (OpenSpec.ofChange fieldTextSpec)) fieldTextCard

/-- THE TIED CARD OF 'recyclinglaw05.FieldNumeral'. -/
def fieldNumeralCard : Claim7 := { stood := { row := fieldNumeralRow, standIns := [], harness := (true, "9426a7cae00f6dd714832dd5dcf9ff2171891de516f027d097fccfc59bfa00d8"), looks := false }, kinds := [], alts := [], laidByText := true, laidKinds := [.data, .data, .data, .data, .pinned], laidTests := true, laidLooks := .later }
def FieldNumeralCardSaid : Prop := Claim7.holds Tryd.pinned (.plain (OpenSpec.ofChange fieldNumeralSpec)) fieldNumeralCard

/-- THE SECOND FORM's CARD OF 'recyclinglaw05.FieldSplits'. -/
def fieldSplitsUptoCard : Claim7 := { stood := { row := fieldSplitsUptoRow, standIns := [], harness := (true, "9426a7cae00f6dd714832dd5dcf9ff2171891de516f027d097fccfc59bfa00d8"), looks := false }, kinds := [], alts := [], laidByText := true, laidKinds := [.data, .pinned], laidTests := true, laidLooks := .later }
def FieldSplitsUptoCardSaid : Prop := Claim7.holds Tryd.pinned (.plain (OpenSpec.upto fieldSplitsSpec)) fieldSplitsUptoCard

/-- THE SECOND FORM's CARD OF 'recyclinglaw05.FieldJoins'. -/
def fieldJoinsUptoCard : Claim7 := { stood := { row := fieldJoinsUptoRow, standIns := [], harness := (true, "9426a7cae00f6dd714832dd5dcf9ff2171891de516f027d097fccfc59bfa00d8"), looks := false }, kinds := [], alts := [], laidByText := true, laidKinds := [.data, .pinned], laidTests := true, laidLooks := .later }
def FieldJoinsUptoCardSaid : Prop := Claim7.holds Tryd.pinned (.plain (OpenSpec.upto fieldJoinsSpec)) fieldJoinsUptoCard

/-- THE SECOND FORM's CARD OF 'recyclinglaw05.FieldLines'. -/
def fieldLinesUptoCard : Claim7 := { stood := { row := fieldLinesUptoRow, standIns := [], harness := (true, "9426a7cae00f6dd714832dd5dcf9ff2171891de516f027d097fccfc59bfa00d8"), looks := false }, kinds := [], alts := [], laidByText := true, laidKinds := [.data, .pinned], laidTests := true, laidLooks := .later }
def FieldLinesUptoCardSaid : Prop := Claim7.holds Tryd.pinned (.plain (OpenSpec.upto fieldLinesSpec)) fieldLinesUptoCard

/-- THE SECOND FORM's CARD OF 'recyclinglaw05.FieldNumbers'. -/
def fieldNumbersUptoCard : Claim7 := { stood := { row := fieldNumbersUptoRow, standIns := [], harness := (true, "9426a7cae00f6dd714832dd5dcf9ff2171891de516f027d097fccfc59bfa00d8"), looks := false }, kinds := [], alts := [], laidByText := true, laidKinds := [.data, .pinned], laidTests := true, laidLooks := .later }
def FieldNumbersUptoCardSaid : Prop := Claim7.holds Tryd.pinned (.plain (OpenSpec.upto fieldNumbersSpec)) fieldNumbersUptoCard

/-- THE SECOND FORM's CARD OF 'recyclinglaw05.FieldRoundTrip'. -/
def fieldRoundTripUptoCard : Claim7 := { stood := { row := fieldRoundTripUptoRow, standIns := [], harness := (true, "9426a7cae00f6dd714832dd5dcf9ff2171891de516f027d097fccfc59bfa00d8"), looks := false }, kinds := [], alts := [], laidByText := true, laidKinds := [.data, .pinned], laidTests := true, laidLooks := .later }
def FieldRoundTripUptoCardSaid : Prop := Claim7.holds Tryd.pinned (.plain (OpenSpec.upto fieldRoundTripSpec)) fieldRoundTripUptoCard

/-- THE SECOND FORM's CARD OF 'recyclinglaw05.FieldQuotes'. -/
def fieldQuotesUptoCard : Claim7 := { stood := { row := fieldQuotesUptoRow, standIns := [], harness := (true, "9426a7cae00f6dd714832dd5dcf9ff2171891de516f027d097fccfc59bfa00d8"), looks := false }, kinds := [], alts := [], laidByText := true, laidKinds := [.data, .pinned], laidTests := true, laidLooks := .later }
def FieldQuotesUptoCardSaid : Prop := Claim7.holds Tryd.pinned (.plain (OpenSpec.upto fieldQuotesSpec)) fieldQuotesUptoCard

/-- THE SECOND FORM's CARD OF 'recyclinglaw05.FieldText'. -/
def fieldTextUptoCard : Claim7 := { stood := { row := fieldTextUptoRow, standIns := [], harness := (true, "9426a7cae00f6dd714832dd5dcf9ff2171891de516f027d097fccfc59bfa00d8"), looks := false }, kinds := [], alts := [], laidByText := true, laidKinds := [.data, .pinned], laidTests := true, laidLooks := .later }
def FieldTextUptoCardSaid : Prop := Claim7.holds Tryd.pinned (.plain (OpenSpec.upto fieldTextSpec)) fieldTextUptoCard

/-- THE SECOND FORM's CARD OF 'recyclinglaw05.FieldNumeral'. -/
def fieldNumeralUptoCard : Claim7 := { stood := { row := fieldNumeralUptoRow, standIns := [], harness := (true, "9426a7cae00f6dd714832dd5dcf9ff2171891de516f027d097fccfc59bfa00d8"), looks := false }, kinds := [], alts := [], laidByText := true, laidKinds := [.data, .data, .data, .data, .pinned], laidTests := true, laidLooks := .later }
def FieldNumeralUptoCardSaid : Prop := Claim7.holds Tryd.pinned (.plain (OpenSpec.upto fieldNumeralSpec)) fieldNumeralUptoCard
end Rows
end Go.Proofs.YtoimcbimkfbkpaaDoor
