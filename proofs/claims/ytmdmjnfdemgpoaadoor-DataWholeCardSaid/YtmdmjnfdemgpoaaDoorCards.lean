/-
  DERIVED. GIVEN WITH THE SEED: THE CARDS: each row of YtmdmjnfdemgpoaaDoorRows.lean that lists a variable, with what it lists TIED to the program's text (the seventh form; the later family's looks); each row that meets fmt, with fmt's text TOLD by the authors' own Lean function (tested against real Go, not proved from fmt's source: count such statements apart). THE CARD IS WHAT COUNTS. Prove the row's statement (the work); the ties are given (YtmdmjnfdemgpoaaDoorTie.lean); close each card by the builder's one call (the guide's Derived/Test/ToyasCard.lean, 'card_holds'). Laid BY PROGRAM, IN A SANDBOX (cutbox-door.mjs). By AI agents, Wed Nov 11 2026. No macro, syntax, notation, axiom, sorry.
-/
import Derived.Test.YtmdmjnfdemgpoaaDoorRows
import GoSem.ClaimSeven
namespace Go.Proofs.YtmdmjnfdemgpoaaDoor
namespace Rows

/-- THE TIED CARD OF 'haruspexlaw25.DataSums'. -/
def dataSumsCard : Claim7 := { stood := { row := dataSumsRow, standIns := [], harness := (true, "759f20c24ed3b5ae13ada788480a642b750e1419b81eda2f2900b3f48897198e"), looks := false }, kinds := [], alts := [], laidByText := true, laidKinds := [.data, .data, .data, .data, .pinned], laidTests := true, laidLooks := .later }
def DataSumsCardSaid : Prop := Claim7.holds Tryd.pinned (.plain (OpenSpec.ofChange dataSumsSpec)) dataSumsCard

/-- THE TIED CARD OF 'haruspexlaw25.DataCounts'. -/
def dataCountsCard : Claim7 := { stood := { row := dataCountsRow, standIns := [], harness := (true, "759f20c24ed3b5ae13ada788480a642b750e1419b81eda2f2900b3f48897198e"), looks := false }, kinds := [], alts := [], laidByText := true, laidKinds := [.data, .data, .data, .data, .pinned], laidTests := true, laidLooks := .later }
def DataCountsCardSaid : Prop := Claim7.holds Tryd.pinned (.plain (OpenSpec.ofChange dataCountsSpec)) dataCountsCard

/-- THE TIED CARD OF 'haruspexlaw25.DataParts'. -/
def dataPartsCard : Claim7 := { stood := { row := dataPartsRow, standIns := [], harness := (true, "759f20c24ed3b5ae13ada788480a642b750e1419b81eda2f2900b3f48897198e"), looks := false }, kinds := [], alts := [], laidByText := true, laidKinds := [.data, .data, .data, .data, .pinned], laidTests := true, laidLooks := .later }
def DataPartsCardSaid : Prop := Claim7.holds Tryd.pinned (.plain (OpenSpec.ofChange dataPartsSpec)) dataPartsCard

/-- THE TIED CARD OF 'haruspexlaw25.DataTexts'. -/
def dataTextsCard : Claim7 := { stood := { row := dataTextsRow, standIns := [], harness := (true, "759f20c24ed3b5ae13ada788480a642b750e1419b81eda2f2900b3f48897198e"), looks := false }, kinds := [], alts := [], laidByText := true, laidKinds := [.data, .data, .data, .data, .pinned], laidTests := true, laidLooks := .later }
def DataTextsCardSaid : Prop := Claim7.holds Tryd.pinned (.plain (OpenSpec.ofChange dataTextsSpec)) dataTextsCard

/-- THE TIED CARD OF 'haruspexlaw25.DataBack'. -/
def dataBackCard : Claim7 := { stood := { row := dataBackRow, standIns := [], harness := (true, "759f20c24ed3b5ae13ada788480a642b750e1419b81eda2f2900b3f48897198e"), looks := false }, kinds := [], alts := [], laidByText := true, laidKinds := [.data, .data, .data, .data, .pinned], laidTests := true, laidLooks := .later }
def DataBackCardSaid : Prop := Claim7.holds Tryd.pinned (.plain (OpenSpec.ofChange dataBackSpec)) dataBackCard

/-- THE TIED CARD OF 'haruspexlaw25.DataKnown'. -/
def dataKnownCard : Claim7 := { stood := { row := dataKnownRow, standIns := [], harness := (true, "759f20c24ed3b5ae13ada788480a642b750e1419b81eda2f2900b3f48897198e"), looks := false }, kinds := [], alts := [], laidByText := true, laidKinds := [.data, .data, .data, .data, .pinned], laidTests := true, laidLooks := .later }
def DataKnownCardSaid : Prop := Claim7.holds Tryd.pinned (.plain (OpenSpec.ofChange dataKnownSpec)) dataKnownCard

/-- THE TIED CARD OF 'haruspexlaw25.DataWhole'. -/
def dataWholeCard : Claim7 := { stood := { row := dataWholeRow, standIns := [], harness := (true, "759f20c24ed3b5ae13ada788480a642b750e1419b81eda2f2900b3f48897198e"), looks := false }, kinds := [], alts := [], laidByText := true, laidKinds := [.data, .data, .data, .data, .pinned], laidTests := true, laidLooks := .later }
def DataWholeCardSaid : Prop := Claim7.holds Tryd.pinned (.plain (OpenSpec.ofChange dataWholeSpec)) dataWholeCard

/-- THE SECOND FORM's CARD OF 'haruspexlaw25.DataSums'. -/
def dataSumsUptoCard : Claim7 := { stood := { row := dataSumsUptoRow, standIns := [], harness := (true, "759f20c24ed3b5ae13ada788480a642b750e1419b81eda2f2900b3f48897198e"), looks := false }, kinds := [], alts := [], laidByText := true, laidKinds := [.data, .data, .data, .data, .pinned], laidTests := true, laidLooks := .later }
def DataSumsUptoCardSaid : Prop := Claim7.holds Tryd.pinned (.plain (OpenSpec.upto dataSumsSpec)) dataSumsUptoCard

/-- THE SECOND FORM's CARD OF 'haruspexlaw25.DataCounts'. -/
def dataCountsUptoCard : Claim7 := { stood := { row := dataCountsUptoRow, standIns := [], harness := (true, "759f20c24ed3b5ae13ada788480a642b750e1419b81eda2f2900b3f48897198e"), looks := false }, kinds := [], alts := [], laidByText := true, laidKinds := [.data, .data, .data, .data, .pinned], laidTests := true, laidLooks := .later }
def DataCountsUptoCardSaid : Prop := Claim7.holds Tryd.pinned (.plain (OpenSpec.upto dataCountsSpec)) dataCountsUptoCard

/-- THE SECOND FORM's CARD OF 'haruspexlaw25.DataParts'. -/
def dataPartsUptoCard : Claim7 := { stood := { row := dataPartsUptoRow, standIns := [], harness := (true, "759f20c24ed3b5ae13ada788480a642b750e1419b81eda2f2900b3f48897198e"), looks := false }, kinds := [], alts := [], laidByText := true, laidKinds := [.data, .data, .data, .data, .pinned], laidTests := true, laidLooks := .later }
def DataPartsUptoCardSaid : Prop := Claim7.holds Tryd.pinned (.plain (OpenSpec.upto dataPartsSpec)) dataPartsUptoCard

/-- THE SECOND FORM's CARD OF 'haruspexlaw25.DataTexts'. -/
def dataTextsUptoCard : Claim7 := { stood := { row := dataTextsUptoRow, standIns := [], harness := (true, "759f20c24ed3b5ae13ada788480a642b750e1419b81eda2f2900b3f48897198e"), looks := false }, kinds := [], alts := [], laidByText := true, laidKinds := [.data, .data, .data, .data, .pinned], laidTests := true, laidLooks := .later }
def DataTextsUptoCardSaid : Prop := Claim7.holds Tryd.pinned (.plain (OpenSpec.upto dataTextsSpec)) dataTextsUptoCard

/-- THE SECOND FORM's CARD OF 'haruspexlaw25.DataBack'. -/
def dataBackUptoCard : Claim7 := { stood := { row := dataBackUptoRow, standIns := [], harness := (true, "759f20c24ed3b5ae13ada788480a642b750e1419b81eda2f2900b3f48897198e"), looks := false }, kinds := [], alts := [], laidByText := true, laidKinds := [.data, .data, .data, .data, .pinned], laidTests := true, laidLooks := .later }
def DataBackUptoCardSaid : Prop := Claim7.holds Tryd.pinned (.plain (OpenSpec.upto dataBackSpec)) dataBackUptoCard

/-- THE SECOND FORM's CARD OF 'haruspexlaw25.DataKnown'. -/
def dataKnownUptoCard : Claim7 := { stood := { row := dataKnownUptoRow, standIns := [], harness := (true, "759f20c24ed3b5ae13ada788480a642b750e1419b81eda2f2900b3f48897198e"), looks := false }, kinds := [], alts := [], laidByText := true, laidKinds := [.data, .data, .data, .data, .pinned], laidTests := true, laidLooks := .later }
def DataKnownUptoCardSaid : Prop := Claim7.holds Tryd.pinned (.plain (OpenSpec.upto dataKnownSpec)) dataKnownUptoCard

/-- THE SECOND FORM's CARD OF 'haruspexlaw25.DataWhole'. -/
def dataWholeUptoCard : Claim7 := { stood := { row := dataWholeUptoRow, standIns := [], harness := (true, "759f20c24ed3b5ae13ada788480a642b750e1419b81eda2f2900b3f48897198e"), looks := false }, kinds := [], alts := [], laidByText := true, laidKinds := [.data, .data, .data, .data, .pinned], laidTests := true, laidLooks := .later }
def DataWholeUptoCardSaid : Prop := Claim7.holds Tryd.pinned (.plain (OpenSpec.upto dataWholeSpec)) dataWholeUptoCard
end Rows
end Go.Proofs.YtmdmjnfdemgpoaaDoor
