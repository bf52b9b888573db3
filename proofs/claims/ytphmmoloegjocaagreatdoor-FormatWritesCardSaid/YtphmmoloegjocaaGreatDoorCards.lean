/-
  DERIVED. GIVEN WITH THE SEED: THE CARDS: each row of YtphmmoloegjocaaGreatDoorRows.lean that lists a variable, with what it lists TIED to the program's text (the seventh form; the later family's looks); each row that meets fmt, with fmt's text TOLD by the authors' own Lean function (tested against real Go, not proved from fmt's source: count such statements apart). THE CARD IS WHAT COUNTS. Prove the row's statement (the work); the ties are given (YtphmmoloegjocaaGreatDoorTie.lean); close each card by the builder's one call (the guide's Derived/Test/ToyasCard.lean, 'card_holds'). Laid BY PROGRAM, IN A SANDBOX (cutbox-door.mjs). By AI agents, Wed Nov 11 2026. No macro, syntax, notation, axiom, sorry.
-/
import Derived.Test.YtphmmoloegjocaaGreatDoorRows
import GoSem.ClaimSeven
namespace Go.Proofs.YtphmmoloegjocaaGreatDoor
namespace Rows

/-- THE TIED CARD OF 'haruspexlaw41.FormatWrites'. -/
def formatWritesCard : Claim7 := { stood := { row := formatWritesRow, standIns := [], harness := (true, "05df7281f202b8135faad0929ba83131a8abc96c8d0575467d8e0ee31e71e4e4"), looks := true }, kinds := [], alts := [], laidByText := true, laidKinds := [.data, .data, .data, .data, .pinned], laidTests := true, laidLooks := .later }
def FormatWritesCardSaid : Prop := Claim7.holds Tryz.pinned (.plain (OpenSpec.ofChange formatWritesSpec)) formatWritesCard

/-- THE TIED CARD OF 'haruspexlaw41.FormatReads'. -/
def formatReadsCard : Claim7 := { stood := { row := formatReadsRow, standIns := [], harness := (true, "05df7281f202b8135faad0929ba83131a8abc96c8d0575467d8e0ee31e71e4e4"), looks := true }, kinds := [], alts := [], laidByText := true, laidKinds := [.data, .data, .data, .data, .pinned], laidTests := true, laidLooks := .later }
def FormatReadsCardSaid : Prop := Claim7.holds Tryz.pinned (.plain (OpenSpec.ofChange formatReadsSpec)) formatReadsCard

/-- THE TIED CARD OF 'haruspexlaw41.FormatStops'. -/
def formatStopsCard : Claim7 := { stood := { row := formatStopsRow, standIns := [], harness := (true, "05df7281f202b8135faad0929ba83131a8abc96c8d0575467d8e0ee31e71e4e4"), looks := true }, kinds := [], alts := [], laidByText := true, laidKinds := [.data, .data, .data, .data, .pinned], laidTests := true, laidLooks := .later }
def FormatStopsCardSaid : Prop := Claim7.holds Tryz.pinned (.plain (OpenSpec.ofChange formatStopsSpec)) formatStopsCard

/-- THE TIED CARD OF 'haruspexlaw41.FormatBack'. -/
def formatBackCard : Claim7 := { stood := { row := formatBackRow, standIns := [], harness := (true, "05df7281f202b8135faad0929ba83131a8abc96c8d0575467d8e0ee31e71e4e4"), looks := true }, kinds := [], alts := [], laidByText := true, laidKinds := [.data, .data, .data, .data, .pinned], laidTests := true, laidLooks := .later }
def FormatBackCardSaid : Prop := Claim7.holds Tryz.pinned (.plain (OpenSpec.ofChange formatBackSpec)) formatBackCard

/-- THE SECOND FORM's CARD OF 'haruspexlaw41.FormatWrites'. -/
def formatWritesUptoCard : Claim7 := { stood := { row := formatWritesUptoRow, standIns := [], harness := (true, "05df7281f202b8135faad0929ba83131a8abc96c8d0575467d8e0ee31e71e4e4"), looks := true }, kinds := [], alts := [], laidByText := true, laidKinds := [.data, .data, .data, .data, .pinned], laidTests := true, laidLooks := .later }
def FormatWritesUptoCardSaid : Prop := Claim7.holds Tryz.pinned (.plain (OpenSpec.upto formatWritesSpec)) formatWritesUptoCard

/-- THE SECOND FORM's CARD OF 'haruspexlaw41.FormatReads'. -/
def formatReadsUptoCard : Claim7 := { stood := { row := formatReadsUptoRow, standIns := [], harness := (true, "05df7281f202b8135faad0929ba83131a8abc96c8d0575467d8e0ee31e71e4e4"), looks := true }, kinds := [], alts := [], laidByText := true, laidKinds := [.data, .data, .data, .data, .pinned], laidTests := true, laidLooks := .later }
def FormatReadsUptoCardSaid : Prop := Claim7.holds Tryz.pinned (.plain (OpenSpec.upto formatReadsSpec)) formatReadsUptoCard

/-- THE SECOND FORM's CARD OF 'haruspexlaw41.FormatStops'. -/
def formatStopsUptoCard : Claim7 := { stood := { row := formatStopsUptoRow, standIns := [], harness := (true, "05df7281f202b8135faad0929ba83131a8abc96c8d0575467d8e0ee31e71e4e4"), looks := true }, kinds := [], alts := [], laidByText := true, laidKinds := [.data, .data, .data, .data, .pinned], laidTests := true, laidLooks := .later }
def FormatStopsUptoCardSaid : Prop := Claim7.holds Tryz.pinned (.plain (OpenSpec.upto formatStopsSpec)) formatStopsUptoCard

/-- THE SECOND FORM's CARD OF 'haruspexlaw41.FormatBack'. -/
def formatBackUptoCard : Claim7 := { stood := { row := formatBackUptoRow, standIns := [], harness := (true, "05df7281f202b8135faad0929ba83131a8abc96c8d0575467d8e0ee31e71e4e4"), looks := true }, kinds := [], alts := [], laidByText := true, laidKinds := [.data, .data, .data, .data, .pinned], laidTests := true, laidLooks := .later }
def FormatBackUptoCardSaid : Prop := Claim7.holds Tryz.pinned (.plain (OpenSpec.upto formatBackSpec)) formatBackUptoCard
end Rows
end Go.Proofs.YtphmmoloegjocaaGreatDoor
