/-
  DERIVED. GIVEN WITH THE SEED: THE CARDS: each row of YtphmmoloegjocaaDoorRows.lean that lists a variable, with what it lists TIED to the program's text (the seventh form; the later family's looks); each row that meets fmt, with fmt's text TOLD by the authors' own Lean function (tested against real Go, not proved from fmt's source: count such statements apart). THE CARD IS WHAT COUNTS. Prove the row's statement (the work); the ties are given (YtphmmoloegjocaaDoorTie.lean); close each card by the builder's one call (the guide's Derived/Test/ToyasCard.lean, 'card_holds'). Laid BY PROGRAM, IN A SANDBOX (cutbox-door.mjs). By AI agents, Wed Nov 11 2026. No macro, syntax, notation, axiom, sorry.
-/
import Derived.Test.YtphmmoloegjocaaDoorRows
import GoSem.ClaimSeven
namespace Go.Proofs.YtphmmoloegjocaaDoor
namespace Rows

/-- THE TIED CARD OF 'haruspexlaw41.FormatTurns'. -/
def formatTurnsCard : Claim7 := { stood := { row := formatTurnsRow, standIns := [], harness := (true, "76287dd29b3369f2ec6c009232b851bb19cb6bfec78e149d8180913282343bc5"), looks := true }, kinds := [], alts := [], laidByText := true, laidKinds := [.data, .data, .data, .data, .pinned], laidTests := true, laidLooks := .later }
def FormatTurnsCardSaid : Prop := Claim7.holds Tryd.pinned (.plain (OpenSpec.ofChange formatTurnsSpec)) formatTurnsCard

/-- THE TIED CARD OF 'haruspexlaw41.FormatKnown'. -/
def formatKnownCard : Claim7 := { stood := { row := formatKnownRow, standIns := [], harness := (true, "76287dd29b3369f2ec6c009232b851bb19cb6bfec78e149d8180913282343bc5"), looks := true }, kinds := [], alts := [], laidByText := true, laidKinds := [.data, .data, .data, .data, .pinned], laidTests := true, laidLooks := .later }
def FormatKnownCardSaid : Prop := Claim7.holds Tryd.pinned (.plain (OpenSpec.ofChange formatKnownSpec)) formatKnownCard

/-- THE SECOND FORM's CARD OF 'haruspexlaw41.FormatTurns'. -/
def formatTurnsUptoCard : Claim7 := { stood := { row := formatTurnsUptoRow, standIns := [], harness := (true, "76287dd29b3369f2ec6c009232b851bb19cb6bfec78e149d8180913282343bc5"), looks := true }, kinds := [], alts := [], laidByText := true, laidKinds := [.data, .data, .data, .data, .pinned], laidTests := true, laidLooks := .later }
def FormatTurnsUptoCardSaid : Prop := Claim7.holds Tryd.pinned (.plain (OpenSpec.upto formatTurnsSpec)) formatTurnsUptoCard

/-- THE SECOND FORM's CARD OF 'haruspexlaw41.FormatKnown'. -/
def formatKnownUptoCard : Claim7 := { stood := { row := formatKnownUptoRow, standIns := [], harness := (true, "76287dd29b3369f2ec6c009232b851bb19cb6bfec78e149d8180913282343bc5"), looks := true }, kinds := [], alts := [], laidByText := true, laidKinds := [.data, .data, .data, .data, .pinned], laidTests := true, laidLooks := .later }
def FormatKnownUptoCardSaid : Prop := Claim7.holds Tryd.pinned (.plain (OpenSpec.upto formatKnownSpec)) formatKnownUptoCard
end Rows
end Go.Proofs.YtphmmoloegjocaaDoor
