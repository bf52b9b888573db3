/-
  NARROWER THAN 'FOR EVERY INPUT', by the rows' own cells (each row's printed sentence says how): ScopeRefs: laid · ScopePrefix: loops, laid · ScopeFinds: loops, laid · ScopeUnused: laid · ScopeNames: loops, laid · ScopeKnown: laid.
  DERIVED. THE GIVEN ROWS OF THIS SEAT. 6 by the template 'for every input the law returns true; each argument reads behind the call as it read before'; 0 by the template 'total and deterministic' (their statements: YtmepdfingcmkmaaGreatDoorTotals.lean).
  GIVEN WITH THE SEED: the statements are not yours to turn. If you find one false, say at which input.
  Laid BY PROGRAM, IN A SANDBOX (cutbox-rows.mjs): the forced cells as the released guide's own fill.sh prints them over the translation 5c669c9898abdc8a… (all of the seat's roots in one cut). By AI agents, Wed Nov 11 2026. No macro, syntax, notation, axiom, sorry.
-/
import Derived.Test.YtmepdfingcmkmaaGreatDoorChecked
import GoSem.Claim
import GoSem.ClaimJoined
import GoSem.ClaimMapViews
import Derived.JoinedTies
import Derived.KernelRfl
namespace Go.Proofs.YtmepdfingcmkmaaGreatDoor
/- THE CELL 'sum', in the pinned program and in every row, IS THE sha256 OF THE DUMP (.gsa) THAT YtmepdfingcmkmaaGreatDoorProg.lean LOADS. Nothing in Lean hashes anything: it is a label: what it is worth is what the hold of that sum in a sandbox is worth. -/
noncomputable def Tryz.pinned : Pinned := { name := "ytmepdfingcmkmaagreatdoor", sum := "5c669c9898abdc8a6b60cddf42a64fd7d011ef5982e44ae81718ed7665c55aee", checked := Tryz.checked }
namespace Rows
def none {H : Type} : Left H := { results := [], args := [] }

/- WHAT THE LISTED PACKAGE-LEVEL VARIABLES READ AS WHEN THE CALL BEGINS. Each datum BY PROGRAM (the guide's laid-datum.mjs) off the statement by which the dump's own 'gosem.cut.vars' lays the variable. In a bare row this is a premise. The card (YtmepdfingcmkmaaGreatDoorCards.lean) ties it to the program's text. -/
def laid_haruspex_lex_keys {H : Type} : DataW H := .agg [.lit (.string [103, 114, 97, 105, 110]), .lit (.string [112, 108, 97, 116, 101]), .lit (.string [110, 111, 100, 101]), .lit (.string [99, 104, 111, 111, 115, 101]), .lit (.string [103, 97, 105, 110]), .lit (.string [102, 114, 111, 109]), .lit (.string [115, 101, 101, 105, 110, 103]), .lit (.string [101, 108, 115, 101]), .lit (.string [97, 110, 100]), .lit (.string [111, 114]), .lit (.string [110, 111, 116]), .lit (.string [105, 110]), .lit (.string [97, 108, 108]), .lit (.string [99, 111, 117, 110, 116])]
def laid_haruspex_lex_marks {H : Type} : DataW H := .agg [.lit (.string [58]), .lit (.string [59]), .lit (.string [44]), .lit (.string [40]), .lit (.string [41]), .lit (.string [91]), .lit (.string [93]), .lit (.string [123]), .lit (.string [125]), .lit (.string [61]), .lit (.string [60]), .lit (.string [43]), .lit (.string [45]), .lit (.string [47, 61]), .lit (.string [60, 61]), .lit (.string [46, 46])]

/-- 'haruspexlaw39.ScopeRefs': WHATEVER THE INPUT: true; the input reads as it did. -/
def scopeRefsSpec : ChangeSpec := { name := "scopeRefs", fn := fun _ => fun
  | [d1, d2, d3, d4, d5] => { results := [.lit (.bool true)], args := [d1, d2, d3, d4, d5] }
  | _ => none }
def scopeRefsRow : OpenClaim := { program := "ytmepdfingcmkmaagreatdoor", sum := "5c669c9898abdc8a6b60cddf42a64fd7d011ef5982e44ae81718ed7665c55aee", func := "haruspex/haruspexlaw39.ScopeRefs", spec := "scopeRefs", unfollowed := true, recurses := true, named := ["haruspex/lex.keys", "haruspex/lex.marks"], apart := false, laid := [("haruspex/lex.keys", laid_haruspex_lex_keys), ("haruspex/lex.marks", laid_haruspex_lex_marks)] }
def ScopeRefsSaid : Prop := scopeRefsRow.holds Tryz.pinned (OpenSpec.ofChange scopeRefsSpec)

/-- ITS FALSE NEIGHBOUR: 'it returns false'. Refute it at one input. -/
def scopeRefsWrong : ChangeSpec := { name := "scopeRefs", fn := fun _ => fun
  | [d1, d2, d3, d4, d5] => { results := [.lit (.bool false)], args := [d1, d2, d3, d4, d5] }
  | _ => none }
def ScopeRefsWrongFalsely : Prop := scopeRefsRow.holds Tryz.pinned (OpenSpec.ofChange scopeRefsWrong)

/-- 'haruspexlaw39.ScopePrefix': WHATEVER THE INPUT: true; the input reads as it did. -/
def scopePrefixSpec : ChangeSpec := { name := "scopePrefix", fn := fun _ => fun
  | [d1, d2, d3, d4] => { results := [.lit (.bool true)], args := [d1, d2, d3, d4] }
  | _ => none }
def scopePrefixRow : OpenClaim := { program := "ytmepdfingcmkmaagreatdoor", sum := "5c669c9898abdc8a6b60cddf42a64fd7d011ef5982e44ae81718ed7665c55aee", func := "haruspex/haruspexlaw39.ScopePrefix", spec := "scopePrefix", unfollowed := true, recurses := true, named := ["haruspex/lex.keys", "haruspex/lex.marks"], loops := true, apart := false, laid := [("haruspex/lex.keys", laid_haruspex_lex_keys), ("haruspex/lex.marks", laid_haruspex_lex_marks)] }
def ScopePrefixSaid : Prop := scopePrefixRow.holds Tryz.pinned (OpenSpec.ofChange scopePrefixSpec)

/-- ITS FALSE NEIGHBOUR: 'it returns false'. Refute it at one input. -/
def scopePrefixWrong : ChangeSpec := { name := "scopePrefix", fn := fun _ => fun
  | [d1, d2, d3, d4] => { results := [.lit (.bool false)], args := [d1, d2, d3, d4] }
  | _ => none }
def ScopePrefixWrongFalsely : Prop := scopePrefixRow.holds Tryz.pinned (OpenSpec.ofChange scopePrefixWrong)

/-- 'haruspexlaw39.ScopeFinds': WHATEVER THE INPUT: true; the input reads as it did. -/
def scopeFindsSpec : ChangeSpec := { name := "scopeFinds", fn := fun _ => fun
  | [d1, d2, d3, d4, d5, d6] => { results := [.lit (.bool true)], args := [d1, d2, d3, d4, d5, d6] }
  | _ => none }
def scopeFindsRow : OpenClaim := { program := "ytmepdfingcmkmaagreatdoor", sum := "5c669c9898abdc8a6b60cddf42a64fd7d011ef5982e44ae81718ed7665c55aee", func := "haruspex/haruspexlaw39.ScopeFinds", spec := "scopeFinds", unfollowed := true, recurses := true, named := ["haruspex/lex.keys", "haruspex/lex.marks"], loops := true, apart := false, laid := [("haruspex/lex.keys", laid_haruspex_lex_keys), ("haruspex/lex.marks", laid_haruspex_lex_marks)] }
def ScopeFindsSaid : Prop := scopeFindsRow.holds Tryz.pinned (OpenSpec.ofChange scopeFindsSpec)

/-- ITS FALSE NEIGHBOUR: 'it returns false'. Refute it at one input. -/
def scopeFindsWrong : ChangeSpec := { name := "scopeFinds", fn := fun _ => fun
  | [d1, d2, d3, d4, d5, d6] => { results := [.lit (.bool false)], args := [d1, d2, d3, d4, d5, d6] }
  | _ => none }
def ScopeFindsWrongFalsely : Prop := scopeFindsRow.holds Tryz.pinned (OpenSpec.ofChange scopeFindsWrong)

/-- 'haruspexlaw39.ScopeUnused': WHATEVER THE INPUT: true; the input reads as it did. -/
def scopeUnusedSpec : ChangeSpec := { name := "scopeUnused", fn := fun _ => fun
  | [d1, d2] => { results := [.lit (.bool true)], args := [d1, d2] }
  | _ => none }
def scopeUnusedRow : OpenClaim := { program := "ytmepdfingcmkmaagreatdoor", sum := "5c669c9898abdc8a6b60cddf42a64fd7d011ef5982e44ae81718ed7665c55aee", func := "haruspex/haruspexlaw39.ScopeUnused", spec := "scopeUnused", unfollowed := true, recurses := true, named := ["haruspex/lex.keys", "haruspex/lex.marks"], apart := false, laid := [("haruspex/lex.keys", laid_haruspex_lex_keys), ("haruspex/lex.marks", laid_haruspex_lex_marks)] }
def ScopeUnusedSaid : Prop := scopeUnusedRow.holds Tryz.pinned (OpenSpec.ofChange scopeUnusedSpec)

/-- ITS FALSE NEIGHBOUR: 'it returns false'. Refute it at one input. -/
def scopeUnusedWrong : ChangeSpec := { name := "scopeUnused", fn := fun _ => fun
  | [d1, d2] => { results := [.lit (.bool false)], args := [d1, d2] }
  | _ => none }
def ScopeUnusedWrongFalsely : Prop := scopeUnusedRow.holds Tryz.pinned (OpenSpec.ofChange scopeUnusedWrong)

/-- 'haruspexlaw39.ScopeNames': WHATEVER THE INPUT: true; the input reads as it did. -/
def scopeNamesSpec : ChangeSpec := { name := "scopeNames", fn := fun _ => fun
  | [d1, d2, d3] => { results := [.lit (.bool true)], args := [d1, d2, d3] }
  | _ => none }
def scopeNamesRow : OpenClaim := { program := "ytmepdfingcmkmaagreatdoor", sum := "5c669c9898abdc8a6b60cddf42a64fd7d011ef5982e44ae81718ed7665c55aee", func := "haruspex/haruspexlaw39.ScopeNames", spec := "scopeNames", inPlace := ["internal/abi.NoEscape", "internal/bytealg.MakeNoZero"], unfollowed := true, recurses := true, named := ["haruspex/lex.keys", "haruspex/lex.marks"], loops := true, apart := false, laid := [("haruspex/lex.keys", laid_haruspex_lex_keys), ("haruspex/lex.marks", laid_haruspex_lex_marks)] }
def ScopeNamesSaid : Prop := scopeNamesRow.holds Tryz.pinned (OpenSpec.ofChange scopeNamesSpec)

/-- ITS FALSE NEIGHBOUR: 'it returns false'. Refute it at one input. -/
def scopeNamesWrong : ChangeSpec := { name := "scopeNames", fn := fun _ => fun
  | [d1, d2, d3] => { results := [.lit (.bool false)], args := [d1, d2, d3] }
  | _ => none }
def ScopeNamesWrongFalsely : Prop := scopeNamesRow.holds Tryz.pinned (OpenSpec.ofChange scopeNamesWrong)

/-- 'haruspexlaw39.ScopeKnown': WHATEVER THE INPUT: true; the input reads as it did. -/
def scopeKnownSpec : ChangeSpec := { name := "scopeKnown", fn := fun _ => fun
  | [] => { results := [.lit (.bool true)], args := [] }
  | _ => none }
def scopeKnownRow : OpenClaim := { program := "ytmepdfingcmkmaagreatdoor", sum := "5c669c9898abdc8a6b60cddf42a64fd7d011ef5982e44ae81718ed7665c55aee", func := "haruspex/haruspexlaw39.ScopeKnown", spec := "scopeKnown", inPlace := ["internal/abi.NoEscape", "internal/bytealg.MakeNoZero"], unfollowed := true, recurses := true, named := ["haruspex/lex.keys", "haruspex/lex.marks"], apart := false, laid := [("haruspex/lex.keys", laid_haruspex_lex_keys), ("haruspex/lex.marks", laid_haruspex_lex_marks)] }
def ScopeKnownSaid : Prop := scopeKnownRow.holds Tryz.pinned (OpenSpec.ofChange scopeKnownSpec)

/-- ITS FALSE NEIGHBOUR: 'it returns false'. Refute it at one input. -/
def scopeKnownWrong : ChangeSpec := { name := "scopeKnown", fn := fun _ => fun
  | [] => { results := [.lit (.bool false)], args := [] }
  | _ => none }
def ScopeKnownWrongFalsely : Prop := scopeKnownRow.holds Tryz.pinned (OpenSpec.ofChange scopeKnownWrong)

/- THE SECOND FORM. 'bulk': how many values and letters a reading holds, each counted each time it is reached (what is shared counts as often as it is met; a slice's spare places count too). A statement '..UptoSaid' is the law's where the arguments, and the package variables that the reading takes, are together of bulk at most 1048576: NARROWER than '..Said'. Prove '..Said' where nothing that the law and all that it calls make is longer than what came in: it says more and counts as full. Else prove '..UptoSaid'. A law counts once. -/
mutual
def uptoBulk {H : Type} : DataW H → Nat
  | .lit (.string bytes) => bytes.length + 1
  | .lit _ => 1
  | .nil => 1
  | .ptr d => uptoBulk d + 1
  | .slice elems spare => uptoBulkAll elems + uptoBulkAll spare + 1
  | .agg parts => uptoBulkAll parts + 1
  | .iface _ d => uptoBulk d + 1
  | .map entries => uptoBulkEntries entries + 1
  | .held _ => 1
def uptoBulkAll {H : Type} : List (DataW H) → Nat
  | [] => 0
  | d :: r => uptoBulk d + uptoBulkAll r
def uptoBulkEntries {H : Type} : List (Lit × DataW H) → Nat
  | [] => 0
  | x :: r => uptoBulkEntry x + uptoBulkEntries r
def uptoBulkEntry {H : Type} : Lit × DataW H → Nat
  | (.string bytes, d) => bytes.length + uptoBulk d + 1
  | (_, d) => uptoBulk d + 1
 end
def uptoSmall : (H : Type) → List (DataW H) → Bool := fun _ ds => decide (uptoBulkAll ds ≤ 1048576)
def OpenSpec.upto (s : _root_.Go.ChangeSpec) : _root_.Go.OpenSpec := { _root_.Go.OpenSpec.ofChange s with cond := some uptoSmall }

/-- 'haruspexlaw39.ScopeRefs', WHERE WHAT IT READS IS OF BULK AT MOST 1048576: true; the input reads as it did. -/
def scopeRefsUptoRow : OpenClaim := { program := "ytmepdfingcmkmaagreatdoor", sum := "5c669c9898abdc8a6b60cddf42a64fd7d011ef5982e44ae81718ed7665c55aee", func := "haruspex/haruspexlaw39.ScopeRefs", spec := "scopeRefs", unfollowed := true, recurses := true, named := ["haruspex/lex.keys", "haruspex/lex.marks"], apart := false, laid := [("haruspex/lex.keys", laid_haruspex_lex_keys), ("haruspex/lex.marks", laid_haruspex_lex_marks)], narrowed := true }
def ScopeRefsUptoSaid : Prop := scopeRefsUptoRow.holds Tryz.pinned (OpenSpec.upto scopeRefsSpec)

/-- 'haruspexlaw39.ScopePrefix', WHERE WHAT IT READS IS OF BULK AT MOST 1048576: true; the input reads as it did. -/
def scopePrefixUptoRow : OpenClaim := { program := "ytmepdfingcmkmaagreatdoor", sum := "5c669c9898abdc8a6b60cddf42a64fd7d011ef5982e44ae81718ed7665c55aee", func := "haruspex/haruspexlaw39.ScopePrefix", spec := "scopePrefix", unfollowed := true, recurses := true, named := ["haruspex/lex.keys", "haruspex/lex.marks"], loops := true, apart := false, laid := [("haruspex/lex.keys", laid_haruspex_lex_keys), ("haruspex/lex.marks", laid_haruspex_lex_marks)], narrowed := true }
def ScopePrefixUptoSaid : Prop := scopePrefixUptoRow.holds Tryz.pinned (OpenSpec.upto scopePrefixSpec)

/-- 'haruspexlaw39.ScopeFinds', WHERE WHAT IT READS IS OF BULK AT MOST 1048576: true; the input reads as it did. -/
def scopeFindsUptoRow : OpenClaim := { program := "ytmepdfingcmkmaagreatdoor", sum := "5c669c9898abdc8a6b60cddf42a64fd7d011ef5982e44ae81718ed7665c55aee", func := "haruspex/haruspexlaw39.ScopeFinds", spec := "scopeFinds", unfollowed := true, recurses := true, named := ["haruspex/lex.keys", "haruspex/lex.marks"], loops := true, apart := false, laid := [("haruspex/lex.keys", laid_haruspex_lex_keys), ("haruspex/lex.marks", laid_haruspex_lex_marks)], narrowed := true }
def ScopeFindsUptoSaid : Prop := scopeFindsUptoRow.holds Tryz.pinned (OpenSpec.upto scopeFindsSpec)

/-- 'haruspexlaw39.ScopeUnused', WHERE WHAT IT READS IS OF BULK AT MOST 1048576: true; the input reads as it did. -/
def scopeUnusedUptoRow : OpenClaim := { program := "ytmepdfingcmkmaagreatdoor", sum := "5c669c9898abdc8a6b60cddf42a64fd7d011ef5982e44ae81718ed7665c55aee", func := "haruspex/haruspexlaw39.ScopeUnused", spec := "scopeUnused", unfollowed := true, recurses := true, named := ["haruspex/lex.keys", "haruspex/lex.marks"], apart := false, laid := [("haruspex/lex.keys", laid_haruspex_lex_keys), ("haruspex/lex.marks", laid_haruspex_lex_marks)], narrowed := true }
def ScopeUnusedUptoSaid : Prop := scopeUnusedUptoRow.holds Tryz.pinned (OpenSpec.upto scopeUnusedSpec)

/-- 'haruspexlaw39.ScopeNames', WHERE WHAT IT READS IS OF BULK AT MOST 1048576: true; the input reads as it did. -/
def scopeNamesUptoRow : OpenClaim := { program := "ytmepdfingcmkmaagreatdoor", sum := "5c669c9898abdc8a6b60cddf42a64fd7d011ef5982e44ae81718ed7665c55aee", func := "haruspex/haruspexlaw39.ScopeNames", spec := "scopeNames", inPlace := ["internal/abi.NoEscape", "internal/bytealg.MakeNoZero"], unfollowed := true, recurses := true, named := ["haruspex/lex.keys", "haruspex/lex.marks"], loops := true, apart := false, laid := [("haruspex/lex.keys", laid_haruspex_lex_keys), ("haruspex/lex.marks", laid_haruspex_lex_marks)], narrowed := true }
def ScopeNamesUptoSaid : Prop := scopeNamesUptoRow.holds Tryz.pinned (OpenSpec.upto scopeNamesSpec)

/-- 'haruspexlaw39.ScopeKnown', WHERE WHAT IT READS IS OF BULK AT MOST 1048576: true; the input reads as it did. -/
def scopeKnownUptoRow : OpenClaim := { program := "ytmepdfingcmkmaagreatdoor", sum := "5c669c9898abdc8a6b60cddf42a64fd7d011ef5982e44ae81718ed7665c55aee", func := "haruspex/haruspexlaw39.ScopeKnown", spec := "scopeKnown", inPlace := ["internal/abi.NoEscape", "internal/bytealg.MakeNoZero"], unfollowed := true, recurses := true, named := ["haruspex/lex.keys", "haruspex/lex.marks"], apart := false, laid := [("haruspex/lex.keys", laid_haruspex_lex_keys), ("haruspex/lex.marks", laid_haruspex_lex_marks)], narrowed := true }
def ScopeKnownUptoSaid : Prop := scopeKnownUptoRow.holds Tryz.pinned (OpenSpec.upto scopeKnownSpec)

end Rows
end Go.Proofs.YtmepdfingcmkmaaGreatDoor
