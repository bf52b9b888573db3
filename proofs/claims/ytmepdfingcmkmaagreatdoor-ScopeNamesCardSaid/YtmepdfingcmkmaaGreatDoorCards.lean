/-
  DERIVED. GIVEN WITH THE SEED: THE CARDS: each row of YtmepdfingcmkmaaGreatDoorRows.lean that lists a variable, with what it lists TIED to the program's text (the seventh form; the later family's looks); each row that meets fmt, with fmt's text TOLD by the authors' own Lean function (tested against real Go, not proved from fmt's source: count such statements apart). THE CARD IS WHAT COUNTS. Prove the row's statement (the work); the ties are given (YtmepdfingcmkmaaGreatDoorTie.lean); close each card by the builder's one call (the guide's Derived/Test/ToyasCard.lean, 'card_holds'). Laid BY PROGRAM, IN A SANDBOX (cutbox-door.mjs). By AI agents, Wed Nov 11 2026. No macro, syntax, notation, axiom, sorry.
-/
import Derived.Test.YtmepdfingcmkmaaGreatDoorRows
import GoSem.ClaimSeven
namespace Go.Proofs.YtmepdfingcmkmaaGreatDoor
namespace Rows

/-- THE TIED CARD OF 'haruspexlaw39.ScopeRefs'. -/
def scopeRefsCard : Claim7 := { stood := { row := scopeRefsRow, standIns := [], harness := (true, "2fbbf534a6e22c1c9b79bfd1496d202898ccabc8df399125808e88f9538ac76c"), looks := true }, kinds := [], alts := [], laidByText := true, laidKinds := [.data, .data], laidTests := true, laidLooks := .later }
def ScopeRefsCardSaid : Prop := Claim7.holds Tryz.pinned (.plain (OpenSpec.ofChange scopeRefsSpec)) scopeRefsCard

/-- THE TIED CARD OF 'haruspexlaw39.ScopePrefix'. -/
def scopePrefixCard : Claim7 := { stood := { row := scopePrefixRow, standIns := [], harness := (true, "2fbbf534a6e22c1c9b79bfd1496d202898ccabc8df399125808e88f9538ac76c"), looks := true }, kinds := [], alts := [], laidByText := true, laidKinds := [.data, .data], laidTests := true, laidLooks := .later }
def ScopePrefixCardSaid : Prop := Claim7.holds Tryz.pinned (.plain (OpenSpec.ofChange scopePrefixSpec)) scopePrefixCard

/-- THE TIED CARD OF 'haruspexlaw39.ScopeFinds'. -/
def scopeFindsCard : Claim7 := { stood := { row := scopeFindsRow, standIns := [], harness := (true, "2fbbf534a6e22c1c9b79bfd1496d202898ccabc8df399125808e88f9538ac76c"), looks := true }, kinds := [], alts := [], laidByText := true, laidKinds := [.data, .data], laidTests := true, laidLooks := .later }
def ScopeFindsCardSaid : Prop := Claim7.holds Tryz.pinned (.plain (OpenSpec.ofChange scopeFindsSpec)) scopeFindsCard

/-- THE TIED CARD OF 'haruspexlaw39.ScopeUnused'. -/
def scopeUnusedCard : Claim7 := { stood := { row := scopeUnusedRow, standIns := [], harness := (true, "2fbbf534a6e22c1c9b79bfd1496d202898ccabc8df399125808e88f9538ac76c"), looks := true }, kinds := [], alts := [], laidByText := true, laidKinds := [.data, .data], laidTests := true, laidLooks := .later }
def ScopeUnusedCardSaid : Prop := Claim7.holds Tryz.pinned (.plain (OpenSpec.ofChange scopeUnusedSpec)) scopeUnusedCard

/-- THE TIED CARD OF 'haruspexlaw39.ScopeNames'. -/
def scopeNamesCard : Claim7 := { stood := { row := scopeNamesRow, standIns := [], harness := (true, "2fbbf534a6e22c1c9b79bfd1496d202898ccabc8df399125808e88f9538ac76c"), looks := true }, kinds := [], alts := [], laidByText := true, laidKinds := [.data, .data], laidTests := true, laidLooks := .later }
def ScopeNamesCardSaid : Prop := Claim7.holds Tryz.pinned (.plain (OpenSpec.ofChange scopeNamesSpec)) scopeNamesCard

/-- THE TIED CARD OF 'haruspexlaw39.ScopeKnown'. -/
def scopeKnownCard : Claim7 := { stood := { row := scopeKnownRow, standIns := [], harness := (true, "2fbbf534a6e22c1c9b79bfd1496d202898ccabc8df399125808e88f9538ac76c"), looks := true }, kinds := [], alts := [], laidByText := true, laidKinds := [.data, .data], laidTests := true, laidLooks := .later }
def ScopeKnownCardSaid : Prop := Claim7.holds Tryz.pinned (.plain (OpenSpec.ofChange scopeKnownSpec)) scopeKnownCard

/-- THE SECOND FORM's CARD OF 'haruspexlaw39.ScopeRefs'. -/
def scopeRefsUptoCard : Claim7 := { stood := { row := scopeRefsUptoRow, standIns := [], harness := (true, "2fbbf534a6e22c1c9b79bfd1496d202898ccabc8df399125808e88f9538ac76c"), looks := true }, kinds := [], alts := [], laidByText := true, laidKinds := [.data, .data], laidTests := true, laidLooks := .later }
def ScopeRefsUptoCardSaid : Prop := Claim7.holds Tryz.pinned (.plain (OpenSpec.upto scopeRefsSpec)) scopeRefsUptoCard

/-- THE SECOND FORM's CARD OF 'haruspexlaw39.ScopePrefix'. -/
def scopePrefixUptoCard : Claim7 := { stood := { row := scopePrefixUptoRow, standIns := [], harness := (true, "2fbbf534a6e22c1c9b79bfd1496d202898ccabc8df399125808e88f9538ac76c"), looks := true }, kinds := [], alts := [], laidByText := true, laidKinds := [.data, .data], laidTests := true, laidLooks := .later }
def ScopePrefixUptoCardSaid : Prop := Claim7.holds Tryz.pinned (.plain (OpenSpec.upto scopePrefixSpec)) scopePrefixUptoCard

/-- THE SECOND FORM's CARD OF 'haruspexlaw39.ScopeFinds'. -/
def scopeFindsUptoCard : Claim7 := { stood := { row := scopeFindsUptoRow, standIns := [], harness := (true, "2fbbf534a6e22c1c9b79bfd1496d202898ccabc8df399125808e88f9538ac76c"), looks := true }, kinds := [], alts := [], laidByText := true, laidKinds := [.data, .data], laidTests := true, laidLooks := .later }
def ScopeFindsUptoCardSaid : Prop := Claim7.holds Tryz.pinned (.plain (OpenSpec.upto scopeFindsSpec)) scopeFindsUptoCard

/-- THE SECOND FORM's CARD OF 'haruspexlaw39.ScopeUnused'. -/
def scopeUnusedUptoCard : Claim7 := { stood := { row := scopeUnusedUptoRow, standIns := [], harness := (true, "2fbbf534a6e22c1c9b79bfd1496d202898ccabc8df399125808e88f9538ac76c"), looks := true }, kinds := [], alts := [], laidByText := true, laidKinds := [.data, .data], laidTests := true, laidLooks := .later }
def ScopeUnusedUptoCardSaid : Prop := Claim7.holds Tryz.pinned (.plain (OpenSpec.upto scopeUnusedSpec)) scopeUnusedUptoCard

/-- THE SECOND FORM's CARD OF 'haruspexlaw39.ScopeNames'. -/
def scopeNamesUptoCard : Claim7 := { stood := { row := scopeNamesUptoRow, standIns := [], harness := (true, "2fbbf534a6e22c1c9b79bfd1496d202898ccabc8df399125808e88f9538ac76c"), looks := true }, kinds := [], alts := [], laidByText := true, laidKinds := [.data, .data], laidTests := true, laidLooks := .later }
def ScopeNamesUptoCardSaid : Prop := Claim7.holds Tryz.pinned (.plain (OpenSpec.upto scopeNamesSpec)) scopeNamesUptoCard

/-- THE SECOND FORM's CARD OF 'haruspexlaw39.ScopeKnown'. -/
def scopeKnownUptoCard : Claim7 := { stood := { row := scopeKnownUptoRow, standIns := [], harness := (true, "2fbbf534a6e22c1c9b79bfd1496d202898ccabc8df399125808e88f9538ac76c"), looks := true }, kinds := [], alts := [], laidByText := true, laidKinds := [.data, .data], laidTests := true, laidLooks := .later }
def ScopeKnownUptoCardSaid : Prop := Claim7.holds Tryz.pinned (.plain (OpenSpec.upto scopeKnownSpec)) scopeKnownUptoCard
end Rows
end Go.Proofs.YtmepdfingcmkmaaGreatDoor
