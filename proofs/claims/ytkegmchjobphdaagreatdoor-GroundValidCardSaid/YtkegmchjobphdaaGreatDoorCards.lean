/-
  DERIVED. GIVEN WITH THE SEED: THE CARDS: each row of YtkegmchjobphdaaGreatDoorRows.lean that lists a variable, with what it lists TIED to the program's text (the seventh form; the later family's looks); each row that meets fmt, with fmt's text TOLD by the authors' own Lean function (tested against real Go, not proved from fmt's source: count such statements apart). THE CARD IS WHAT COUNTS. Prove the row's statement (the work); the ties are given (YtkegmchjobphdaaGreatDoorTie.lean); close each card by the builder's one call (the guide's Derived/Test/ToyasCard.lean, 'card_holds'). Laid BY PROGRAM, IN A SANDBOX (cutbox-door.mjs). By AI agents, Wed Nov 11 2026. No macro, syntax, notation, axiom, sorry.
-/
import Derived.Test.YtkegmchjobphdaaGreatDoorRows
import GoSem.ClaimSeven
namespace Go.Proofs.YtkegmchjobphdaaGreatDoor
namespace Rows

/-- THE TIED CARD OF 'haruspexlaw40.GroundMakes'. -/
def groundMakesCard : Claim7 := { stood := { row := groundMakesRow, standIns := [], harness := (true, "b98e849cc45b36c37f5ad5d057ca5689126fc4a06d3e7f63054a04f637076709"), looks := true }, kinds := [], alts := [], laidByText := true, laidKinds := [.data, .data, .data, .data, .data], laidTests := true, laidLooks := .later }
def GroundMakesCardSaid : Prop := Claim7.holds Tryz.pinned (.plain (OpenSpec.ofChange groundMakesSpec)) groundMakesCard

/-- THE TIED CARD OF 'haruspexlaw40.GroundFinds'. -/
def groundFindsCard : Claim7 := { stood := { row := groundFindsRow, standIns := [], harness := (true, "b98e849cc45b36c37f5ad5d057ca5689126fc4a06d3e7f63054a04f637076709"), looks := true }, kinds := [], alts := [], laidByText := true, laidKinds := [.data, .data, .data, .data, .data], laidTests := true, laidLooks := .later }
def GroundFindsCardSaid : Prop := Claim7.holds Tryz.pinned (.plain (OpenSpec.ofChange groundFindsSpec)) groundFindsCard

/-- THE TIED CARD OF 'haruspexlaw40.GroundMeans'. -/
def groundMeansCard : Claim7 := { stood := { row := groundMeansRow, standIns := [], harness := (true, "b98e849cc45b36c37f5ad5d057ca5689126fc4a06d3e7f63054a04f637076709"), looks := true }, kinds := [], alts := [], laidByText := true, laidKinds := [.data, .data, .data, .data, .data], laidTests := true, laidLooks := .later }
def GroundMeansCardSaid : Prop := Claim7.holds Tryz.pinned (.plain (OpenSpec.ofChange groundMeansSpec)) groundMeansCard

/-- THE TIED CARD OF 'haruspexlaw40.GroundEnd'. -/
def groundEndCard : Claim7 := { stood := { row := groundEndRow, standIns := [], harness := (true, "b98e849cc45b36c37f5ad5d057ca5689126fc4a06d3e7f63054a04f637076709"), looks := true }, kinds := [], alts := [], laidByText := true, laidKinds := [.data, .data, .data, .data, .data], laidTests := true, laidLooks := .later }
def GroundEndCardSaid : Prop := Claim7.holds Tryz.pinned (.plain (OpenSpec.ofChange groundEndSpec)) groundEndCard

/-- THE TIED CARD OF 'haruspexlaw40.GroundKnown'. -/
def groundKnownCard : Claim7 := { stood := { row := groundKnownRow, standIns := [], harness := (true, "b98e849cc45b36c37f5ad5d057ca5689126fc4a06d3e7f63054a04f637076709"), looks := true }, kinds := [], alts := [], laidByText := true, laidKinds := [.data, .data, .data, .data, .data], laidTests := true, laidLooks := .later }
def GroundKnownCardSaid : Prop := Claim7.holds Tryz.pinned (.plain (OpenSpec.ofChange groundKnownSpec)) groundKnownCard

/-- THE TIED CARD OF 'haruspexlaw40.GroundValid'. -/
def groundValidCard : Claim7 := { stood := { row := groundValidRow, standIns := [], harness := (true, "b98e849cc45b36c37f5ad5d057ca5689126fc4a06d3e7f63054a04f637076709"), looks := true }, kinds := [], alts := [], laidByText := true, laidKinds := [.data, .data, .data, .data, .data], laidTests := true, laidLooks := .later }
def GroundValidCardSaid : Prop := Claim7.holds Tryz.pinned (.plain (OpenSpec.ofChange groundValidSpec)) groundValidCard

/-- THE SECOND FORM's CARD OF 'haruspexlaw40.GroundMakes'. -/
def groundMakesUptoCard : Claim7 := { stood := { row := groundMakesUptoRow, standIns := [], harness := (true, "b98e849cc45b36c37f5ad5d057ca5689126fc4a06d3e7f63054a04f637076709"), looks := true }, kinds := [], alts := [], laidByText := true, laidKinds := [.data, .data, .data, .data, .data], laidTests := true, laidLooks := .later }
def GroundMakesUptoCardSaid : Prop := Claim7.holds Tryz.pinned (.plain (OpenSpec.upto groundMakesSpec)) groundMakesUptoCard

/-- THE SECOND FORM's CARD OF 'haruspexlaw40.GroundFinds'. -/
def groundFindsUptoCard : Claim7 := { stood := { row := groundFindsUptoRow, standIns := [], harness := (true, "b98e849cc45b36c37f5ad5d057ca5689126fc4a06d3e7f63054a04f637076709"), looks := true }, kinds := [], alts := [], laidByText := true, laidKinds := [.data, .data, .data, .data, .data], laidTests := true, laidLooks := .later }
def GroundFindsUptoCardSaid : Prop := Claim7.holds Tryz.pinned (.plain (OpenSpec.upto groundFindsSpec)) groundFindsUptoCard

/-- THE SECOND FORM's CARD OF 'haruspexlaw40.GroundMeans'. -/
def groundMeansUptoCard : Claim7 := { stood := { row := groundMeansUptoRow, standIns := [], harness := (true, "b98e849cc45b36c37f5ad5d057ca5689126fc4a06d3e7f63054a04f637076709"), looks := true }, kinds := [], alts := [], laidByText := true, laidKinds := [.data, .data, .data, .data, .data], laidTests := true, laidLooks := .later }
def GroundMeansUptoCardSaid : Prop := Claim7.holds Tryz.pinned (.plain (OpenSpec.upto groundMeansSpec)) groundMeansUptoCard

/-- THE SECOND FORM's CARD OF 'haruspexlaw40.GroundEnd'. -/
def groundEndUptoCard : Claim7 := { stood := { row := groundEndUptoRow, standIns := [], harness := (true, "b98e849cc45b36c37f5ad5d057ca5689126fc4a06d3e7f63054a04f637076709"), looks := true }, kinds := [], alts := [], laidByText := true, laidKinds := [.data, .data, .data, .data, .data], laidTests := true, laidLooks := .later }
def GroundEndUptoCardSaid : Prop := Claim7.holds Tryz.pinned (.plain (OpenSpec.upto groundEndSpec)) groundEndUptoCard

/-- THE SECOND FORM's CARD OF 'haruspexlaw40.GroundKnown'. -/
def groundKnownUptoCard : Claim7 := { stood := { row := groundKnownUptoRow, standIns := [], harness := (true, "b98e849cc45b36c37f5ad5d057ca5689126fc4a06d3e7f63054a04f637076709"), looks := true }, kinds := [], alts := [], laidByText := true, laidKinds := [.data, .data, .data, .data, .data], laidTests := true, laidLooks := .later }
def GroundKnownUptoCardSaid : Prop := Claim7.holds Tryz.pinned (.plain (OpenSpec.upto groundKnownSpec)) groundKnownUptoCard

/-- THE SECOND FORM's CARD OF 'haruspexlaw40.GroundValid'. -/
def groundValidUptoCard : Claim7 := { stood := { row := groundValidUptoRow, standIns := [], harness := (true, "b98e849cc45b36c37f5ad5d057ca5689126fc4a06d3e7f63054a04f637076709"), looks := true }, kinds := [], alts := [], laidByText := true, laidKinds := [.data, .data, .data, .data, .data], laidTests := true, laidLooks := .later }
def GroundValidUptoCardSaid : Prop := Claim7.holds Tryz.pinned (.plain (OpenSpec.upto groundValidSpec)) groundValidUptoCard
end Rows
end Go.Proofs.YtkegmchjobphdaaGreatDoor
