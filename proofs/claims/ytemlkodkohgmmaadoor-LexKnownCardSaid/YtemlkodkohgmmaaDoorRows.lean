/-
  NARROWER THAN 'FOR EVERY INPUT', by the rows' own cells (each row's printed sentence says how): LexReads: laid · LexJoins: laid · LexAgain: laid · LexCuts: laid · LexChecks: laid · LexKnown: laid · LexBack: laid.
  DERIVED. THE GIVEN ROWS OF THIS SEAT. 7 by the template 'for every input the law returns true; each argument reads behind the call as it read before'; 0 by the template 'total and deterministic' (their statements: YtemlkodkohgmmaaDoorTotals.lean).
  GIVEN WITH THE SEED: the statements are not yours to turn. If you find one false, say at which input.
  Laid BY PROGRAM, IN A SANDBOX (cutbox-rows.mjs): the forced cells as the released guide's own fill.sh prints them over the translation b06384bb1104cf32… (all of the seat's roots in one cut). By AI agents, Wed Nov 11 2026. No macro, syntax, notation, axiom, sorry.
-/
import Derived.Test.YtemlkodkohgmmaaDoorChecked
import GoSem.PinnedTables
import GoSem.Claim
import GoSem.ClaimJoined
import GoSem.ClaimMapViews
import Derived.JoinedTies
import Derived.KernelRfl
namespace Go.Proofs.YtemlkodkohgmmaaDoor
/- THE CELL 'sum', in the pinned program and in every row, IS THE sha256 OF THE DUMP (.gsa) THAT YtemlkodkohgmmaaDoorProg.lean LOADS. Nothing in Lean hashes anything: it is a label: what it is worth is what the hold of that sum in a sandbox is worth. -/
noncomputable def Tryd.pinned : Pinned := { name := "ytemlkodkohgmmaadoor", sum := "b06384bb1104cf32e13e396ad723e8b5cd7a6f3dfc44bbcc8af2b859f5a46ed5", checked := Tryd.checked }
namespace Rows
def none {H : Type} : Left H := { results := [], args := [] }

/- WHAT THE LISTED PACKAGE-LEVEL VARIABLES READ AS WHEN THE CALL BEGINS. Each datum BY PROGRAM (the guide's laid-datum.mjs) off the statement by which the dump's own 'gosem.cut.vars' lays the variable. In a bare row this is a premise. The card (YtemlkodkohgmmaaDoorCards.lean) ties it to the program's text. -/
def laid_haruspex_lex_keys {H : Type} : DataW H := .agg [.lit (.string [103, 114, 97, 105, 110]), .lit (.string [112, 108, 97, 116, 101]), .lit (.string [110, 111, 100, 101]), .lit (.string [99, 104, 111, 111, 115, 101]), .lit (.string [103, 97, 105, 110]), .lit (.string [102, 114, 111, 109]), .lit (.string [115, 101, 101, 105, 110, 103]), .lit (.string [101, 108, 115, 101]), .lit (.string [97, 110, 100]), .lit (.string [111, 114]), .lit (.string [110, 111, 116]), .lit (.string [105, 110]), .lit (.string [97, 108, 108]), .lit (.string [99, 111, 117, 110, 116])]
def laid_haruspex_lex_marks {H : Type} : DataW H := .agg [.lit (.string [58]), .lit (.string [59]), .lit (.string [44]), .lit (.string [40]), .lit (.string [41]), .lit (.string [91]), .lit (.string [93]), .lit (.string [123]), .lit (.string [125]), .lit (.string [61]), .lit (.string [60]), .lit (.string [43]), .lit (.string [45]), .lit (.string [47, 61]), .lit (.string [60, 61]), .lit (.string [46, 46])]
def laid_unicode_utf8_acceptRanges {H : Type} : DataW H := .agg [.agg [.lit (.int .u8 128), .lit (.int .u8 191)], .agg [.lit (.int .u8 160), .lit (.int .u8 191)], .agg [.lit (.int .u8 128), .lit (.int .u8 159)], .agg [.lit (.int .u8 144), .lit (.int .u8 191)], .agg [.lit (.int .u8 128), .lit (.int .u8 143)], .agg [.lit (.int .u8 0), .lit (.int .u8 0)], .agg [.lit (.int .u8 0), .lit (.int .u8 0)], .agg [.lit (.int .u8 0), .lit (.int .u8 0)], .agg [.lit (.int .u8 0), .lit (.int .u8 0)], .agg [.lit (.int .u8 0), .lit (.int .u8 0)], .agg [.lit (.int .u8 0), .lit (.int .u8 0)], .agg [.lit (.int .u8 0), .lit (.int .u8 0)], .agg [.lit (.int .u8 0), .lit (.int .u8 0)], .agg [.lit (.int .u8 0), .lit (.int .u8 0)], .agg [.lit (.int .u8 0), .lit (.int .u8 0)], .agg [.lit (.int .u8 0), .lit (.int .u8 0)]]
/-- One of Go's own tables, pinned by name: the form's constant. -/
def laid_unicode_utf8_first : DataW Unit := Go.Pinned.utf8First

/-- 'haruspexlaw37.LexReads': WHATEVER THE INPUT: true; the input reads as it did. -/
def lexReadsSpec : ChangeSpec := { name := "lexReads", fn := fun _ => fun
  | [d1, d2, d3] => { results := [.lit (.bool true)], args := [d1, d2, d3] }
  | _ => none }
def lexReadsRow : OpenClaim := { program := "ytemlkodkohgmmaadoor", sum := "b06384bb1104cf32e13e396ad723e8b5cd7a6f3dfc44bbcc8af2b859f5a46ed5", func := "haruspex/haruspexlaw37.LexReads", spec := "lexReads", inPlace := ["internal/abi.NoEscape", "internal/bytealg.MakeNoZero"], unfollowed := true, recurses := true, named := ["haruspex/lex.keys", "haruspex/lex.marks"], apart := false, laid := [("haruspex/lex.keys", laid_haruspex_lex_keys), ("haruspex/lex.marks", laid_haruspex_lex_marks)] }
def LexReadsSaid : Prop := lexReadsRow.holds Tryd.pinned (OpenSpec.ofChange lexReadsSpec)

/-- ITS FALSE NEIGHBOUR: 'it returns false'. Refute it at one input. -/
def lexReadsWrong : ChangeSpec := { name := "lexReads", fn := fun _ => fun
  | [d1, d2, d3] => { results := [.lit (.bool false)], args := [d1, d2, d3] }
  | _ => none }
def LexReadsWrongFalsely : Prop := lexReadsRow.holds Tryd.pinned (OpenSpec.ofChange lexReadsWrong)

/-- 'haruspexlaw37.LexJoins': WHATEVER THE INPUT: true; the input reads as it did. -/
def lexJoinsSpec : ChangeSpec := { name := "lexJoins", fn := fun _ => fun
  | [d1, d2, d3, d4, d5, d6] => { results := [.lit (.bool true)], args := [d1, d2, d3, d4, d5, d6] }
  | _ => none }
def lexJoinsRow : OpenClaim := { program := "ytemlkodkohgmmaadoor", sum := "b06384bb1104cf32e13e396ad723e8b5cd7a6f3dfc44bbcc8af2b859f5a46ed5", func := "haruspex/haruspexlaw37.LexJoins", spec := "lexJoins", inPlace := ["internal/abi.NoEscape", "internal/bytealg.MakeNoZero"], unfollowed := true, recurses := true, named := ["haruspex/lex.keys", "haruspex/lex.marks"], apart := false, laid := [("haruspex/lex.keys", laid_haruspex_lex_keys), ("haruspex/lex.marks", laid_haruspex_lex_marks)] }
def LexJoinsSaid : Prop := lexJoinsRow.holds Tryd.pinned (OpenSpec.ofChange lexJoinsSpec)

/-- ITS FALSE NEIGHBOUR: 'it returns false'. Refute it at one input. -/
def lexJoinsWrong : ChangeSpec := { name := "lexJoins", fn := fun _ => fun
  | [d1, d2, d3, d4, d5, d6] => { results := [.lit (.bool false)], args := [d1, d2, d3, d4, d5, d6] }
  | _ => none }
def LexJoinsWrongFalsely : Prop := lexJoinsRow.holds Tryd.pinned (OpenSpec.ofChange lexJoinsWrong)

/-- 'haruspexlaw37.LexAgain': WHATEVER THE INPUT: true; the input reads as it did. -/
def lexAgainSpec : ChangeSpec := { name := "lexAgain", fn := fun _ => fun
  | [d] => { results := [.lit (.bool true)], args := [d] }
  | _ => none }
def lexAgainRow : OpenClaim := { program := "ytemlkodkohgmmaadoor", sum := "b06384bb1104cf32e13e396ad723e8b5cd7a6f3dfc44bbcc8af2b859f5a46ed5", func := "haruspex/haruspexlaw37.LexAgain", spec := "lexAgain", inPlace := ["internal/abi.NoEscape", "internal/bytealg.MakeNoZero"], unfollowed := true, recurses := true, named := ["haruspex/lex.keys", "haruspex/lex.marks"], apart := false, laid := [("haruspex/lex.keys", laid_haruspex_lex_keys), ("haruspex/lex.marks", laid_haruspex_lex_marks)] }
def LexAgainSaid : Prop := lexAgainRow.holds Tryd.pinned (OpenSpec.ofChange lexAgainSpec)

/-- ITS FALSE NEIGHBOUR: 'it returns false'. Refute it at one input. -/
def lexAgainWrong : ChangeSpec := { name := "lexAgain", fn := fun _ => fun
  | [d] => { results := [.lit (.bool false)], args := [d] }
  | _ => none }
def LexAgainWrongFalsely : Prop := lexAgainRow.holds Tryd.pinned (OpenSpec.ofChange lexAgainWrong)

/-- 'haruspexlaw37.LexCuts': WHATEVER THE INPUT: true; the input reads as it did. -/
def lexCutsSpec : ChangeSpec := { name := "lexCuts", fn := fun _ => fun
  | [d1, d2, d3, d4] => { results := [.lit (.bool true)], args := [d1, d2, d3, d4] }
  | _ => none }
def lexCutsRow : OpenClaim := { program := "ytemlkodkohgmmaadoor", sum := "b06384bb1104cf32e13e396ad723e8b5cd7a6f3dfc44bbcc8af2b859f5a46ed5", func := "haruspex/haruspexlaw37.LexCuts", spec := "lexCuts", inPlace := ["internal/abi.NoEscape", "internal/bytealg.MakeNoZero"], unfollowed := true, recurses := true, named := ["haruspex/lex.keys", "haruspex/lex.marks"], apart := false, laid := [("haruspex/lex.keys", laid_haruspex_lex_keys), ("haruspex/lex.marks", laid_haruspex_lex_marks)] }
def LexCutsSaid : Prop := lexCutsRow.holds Tryd.pinned (OpenSpec.ofChange lexCutsSpec)

/-- ITS FALSE NEIGHBOUR: 'it returns false'. Refute it at one input. -/
def lexCutsWrong : ChangeSpec := { name := "lexCuts", fn := fun _ => fun
  | [d1, d2, d3, d4] => { results := [.lit (.bool false)], args := [d1, d2, d3, d4] }
  | _ => none }
def LexCutsWrongFalsely : Prop := lexCutsRow.holds Tryd.pinned (OpenSpec.ofChange lexCutsWrong)

/-- 'haruspexlaw37.LexChecks': WHATEVER THE INPUT: true; the input reads as it did. -/
def lexChecksSpec : ChangeSpec := { name := "lexChecks", fn := fun _ => fun
  | [d1, d2, d3, d4, d5] => { results := [.lit (.bool true)], args := [d1, d2, d3, d4, d5] }
  | _ => none }
def lexChecksRow : OpenClaim := { program := "ytemlkodkohgmmaadoor", sum := "b06384bb1104cf32e13e396ad723e8b5cd7a6f3dfc44bbcc8af2b859f5a46ed5", func := "haruspex/haruspexlaw37.LexChecks", spec := "lexChecks", inPlace := ["internal/abi.NoEscape", "internal/bytealg.MakeNoZero"], unfollowed := true, recurses := true, named := ["haruspex/lex.keys", "haruspex/lex.marks"], apart := false, laid := [("haruspex/lex.keys", laid_haruspex_lex_keys), ("haruspex/lex.marks", laid_haruspex_lex_marks)] }
def LexChecksSaid : Prop := lexChecksRow.holds Tryd.pinned (OpenSpec.ofChange lexChecksSpec)

/-- ITS FALSE NEIGHBOUR: 'it returns false'. Refute it at one input. -/
def lexChecksWrong : ChangeSpec := { name := "lexChecks", fn := fun _ => fun
  | [d1, d2, d3, d4, d5] => { results := [.lit (.bool false)], args := [d1, d2, d3, d4, d5] }
  | _ => none }
def LexChecksWrongFalsely : Prop := lexChecksRow.holds Tryd.pinned (OpenSpec.ofChange lexChecksWrong)

/-- 'haruspexlaw37.LexKnown': WHATEVER THE INPUT: true; the input reads as it did. -/
def lexKnownSpec : ChangeSpec := { name := "lexKnown", fn := fun _ => fun
  | [] => { results := [.lit (.bool true)], args := [] }
  | _ => none }
def lexKnownRow : OpenClaim := { program := "ytemlkodkohgmmaadoor", sum := "b06384bb1104cf32e13e396ad723e8b5cd7a6f3dfc44bbcc8af2b859f5a46ed5", func := "haruspex/haruspexlaw37.LexKnown", spec := "lexKnown", inPlace := ["internal/abi.NoEscape", "internal/bytealg.MakeNoZero"], unfollowed := true, recurses := true, named := ["haruspex/lex.keys", "haruspex/lex.marks"], apart := false, laid := [("haruspex/lex.keys", laid_haruspex_lex_keys), ("haruspex/lex.marks", laid_haruspex_lex_marks)] }
def LexKnownSaid : Prop := lexKnownRow.holds Tryd.pinned (OpenSpec.ofChange lexKnownSpec)

/-- ITS FALSE NEIGHBOUR: 'it returns false'. Refute it at one input. -/
def lexKnownWrong : ChangeSpec := { name := "lexKnown", fn := fun _ => fun
  | [] => { results := [.lit (.bool false)], args := [] }
  | _ => none }
def LexKnownWrongFalsely : Prop := lexKnownRow.holds Tryd.pinned (OpenSpec.ofChange lexKnownWrong)

/-- 'haruspexlaw37.LexBack': WHATEVER THE INPUT: true; the input reads as it did. -/
def lexBackSpec : ChangeSpec := { name := "lexBack", fn := fun _ => fun
  | [d1, d2] => { results := [.lit (.bool true)], args := [d1, d2] }
  | _ => none }
def lexBackRow : OpenClaim := { program := "ytemlkodkohgmmaadoor", sum := "b06384bb1104cf32e13e396ad723e8b5cd7a6f3dfc44bbcc8af2b859f5a46ed5", func := "haruspex/haruspexlaw37.LexBack", spec := "lexBack", inPlace := ["internal/abi.NoEscape", "internal/bytealg.MakeNoZero", "internal/bytealg.CountString", "internal/bytealg.IndexByteString", "internal/bytealg.IndexString"], unfollowed := true, recurses := true, named := ["haruspex/lex.keys", "haruspex/lex.marks", "internal/bytealg.MaxLen", "unicode/utf8.first", "unicode/utf8.acceptRanges"], apart := false, laid := [("unicode/utf8.acceptRanges", laid_unicode_utf8_acceptRanges), ("haruspex/lex.keys", laid_haruspex_lex_keys), ("haruspex/lex.marks", laid_haruspex_lex_marks), ("unicode/utf8.first", laid_unicode_utf8_first)] }
def LexBackSaid : Prop := lexBackRow.holds Tryd.pinned (OpenSpec.ofChange lexBackSpec)

/-- ITS FALSE NEIGHBOUR: 'it returns false'. Refute it at one input. -/
def lexBackWrong : ChangeSpec := { name := "lexBack", fn := fun _ => fun
  | [d1, d2] => { results := [.lit (.bool false)], args := [d1, d2] }
  | _ => none }
def LexBackWrongFalsely : Prop := lexBackRow.holds Tryd.pinned (OpenSpec.ofChange lexBackWrong)

/- THE SECOND FORM. 'bulk': how many values and letters a reading holds, each counted each time it is reached (what is shared counts as often as it is met; a slice's spare places count too). A statement '..UptoSaid' is the law's where the arguments, and the package variables that the reading takes, are together of bulk at most 1048576: NARROWER than '..Said'. Prove '..Said' where nothing that the law and all that it calls make is longer than what came in: it says more and counts as full. Else prove '..UptoSaid'. A law counts once. -/
mutual
def uptoBulk {H : Type} : DataW H → Nat
  | .lit (.string bytes) => bytes.length + 1
  | .lit _ => 1
  | .nil => 1
  | .ptr d => uptoBulk d + 1
  | .slice elems spare => uptoBulkAll elems + uptoBulkAll spare + 1
  | .agg parts => uptoBulkAll parts + 1
  | .iface _ d => uptoBulk d + 1
  | .map entries => uptoBulkEntries entries + 1
  | .held _ => 1
def uptoBulkAll {H : Type} : List (DataW H) → Nat
  | [] => 0
  | d :: r => uptoBulk d + uptoBulkAll r
def uptoBulkEntries {H : Type} : List (Lit × DataW H) → Nat
  | [] => 0
  | x :: r => uptoBulkEntry x + uptoBulkEntries r
def uptoBulkEntry {H : Type} : Lit × DataW H → Nat
  | (.string bytes, d) => bytes.length + uptoBulk d + 1
  | (_, d) => uptoBulk d + 1
 end
def uptoSmall : (H : Type) → List (DataW H) → Bool := fun _ ds => decide (uptoBulkAll ds ≤ 1048576)
def OpenSpec.upto (s : _root_.Go.ChangeSpec) : _root_.Go.OpenSpec := { _root_.Go.OpenSpec.ofChange s with cond := some uptoSmall }

/-- 'haruspexlaw37.LexReads', WHERE WHAT IT READS IS OF BULK AT MOST 1048576: true; the input reads as it did. -/
def lexReadsUptoRow : OpenClaim := { program := "ytemlkodkohgmmaadoor", sum := "b06384bb1104cf32e13e396ad723e8b5cd7a6f3dfc44bbcc8af2b859f5a46ed5", func := "haruspex/haruspexlaw37.LexReads", spec := "lexReads", inPlace := ["internal/abi.NoEscape", "internal/bytealg.MakeNoZero"], unfollowed := true, recurses := true, named := ["haruspex/lex.keys", "haruspex/lex.marks"], apart := false, laid := [("haruspex/lex.keys", laid_haruspex_lex_keys), ("haruspex/lex.marks", laid_haruspex_lex_marks)], narrowed := true }
def LexReadsUptoSaid : Prop := lexReadsUptoRow.holds Tryd.pinned (OpenSpec.upto lexReadsSpec)

/-- 'haruspexlaw37.LexJoins', WHERE WHAT IT READS IS OF BULK AT MOST 1048576: true; the input reads as it did. -/
def lexJoinsUptoRow : OpenClaim := { program := "ytemlkodkohgmmaadoor", sum := "b06384bb1104cf32e13e396ad723e8b5cd7a6f3dfc44bbcc8af2b859f5a46ed5", func := "haruspex/haruspexlaw37.LexJoins", spec := "lexJoins", inPlace := ["internal/abi.NoEscape", "internal/bytealg.MakeNoZero"], unfollowed := true, recurses := true, named := ["haruspex/lex.keys", "haruspex/lex.marks"], apart := false, laid := [("haruspex/lex.keys", laid_haruspex_lex_keys), ("haruspex/lex.marks", laid_haruspex_lex_marks)], narrowed := true }
def LexJoinsUptoSaid : Prop := lexJoinsUptoRow.holds Tryd.pinned (OpenSpec.upto lexJoinsSpec)

/-- 'haruspexlaw37.LexAgain', WHERE WHAT IT READS IS OF BULK AT MOST 1048576: true; the input reads as it did. -/
def lexAgainUptoRow : OpenClaim := { program := "ytemlkodkohgmmaadoor", sum := "b06384bb1104cf32e13e396ad723e8b5cd7a6f3dfc44bbcc8af2b859f5a46ed5", func := "haruspex/haruspexlaw37.LexAgain", spec := "lexAgain", inPlace := ["internal/abi.NoEscape", "internal/bytealg.MakeNoZero"], unfollowed := true, recurses := true, named := ["haruspex/lex.keys", "haruspex/lex.marks"], apart := false, laid := [("haruspex/lex.keys", laid_haruspex_lex_keys), ("haruspex/lex.marks", laid_haruspex_lex_marks)], narrowed := true }
def LexAgainUptoSaid : Prop := lexAgainUptoRow.holds Tryd.pinned (OpenSpec.upto lexAgainSpec)

/-- 'haruspexlaw37.LexCuts', WHERE WHAT IT READS IS OF BULK AT MOST 1048576: true; the input reads as it did. -/
def lexCutsUptoRow : OpenClaim := { program := "ytemlkodkohgmmaadoor", sum := "b06384bb1104cf32e13e396ad723e8b5cd7a6f3dfc44bbcc8af2b859f5a46ed5", func := "haruspex/haruspexlaw37.LexCuts", spec := "lexCuts", inPlace := ["internal/abi.NoEscape", "internal/bytealg.MakeNoZero"], unfollowed := true, recurses := true, named := ["haruspex/lex.keys", "haruspex/lex.marks"], apart := false, laid := [("haruspex/lex.keys", laid_haruspex_lex_keys), ("haruspex/lex.marks", laid_haruspex_lex_marks)], narrowed := true }
def LexCutsUptoSaid : Prop := lexCutsUptoRow.holds Tryd.pinned (OpenSpec.upto lexCutsSpec)

/-- 'haruspexlaw37.LexChecks', WHERE WHAT IT READS IS OF BULK AT MOST 1048576: true; the input reads as it did. -/
def lexChecksUptoRow : OpenClaim := { program := "ytemlkodkohgmmaadoor", sum := "b06384bb1104cf32e13e396ad723e8b5cd7a6f3dfc44bbcc8af2b859f5a46ed5", func := "haruspex/haruspexlaw37.LexChecks", spec := "lexChecks", inPlace := ["internal/abi.NoEscape", "internal/bytealg.MakeNoZero"], unfollowed := true, recurses := true, named := ["haruspex/lex.keys", "haruspex/lex.marks"], apart := false, laid := [("haruspex/lex.keys", laid_haruspex_lex_keys), ("haruspex/lex.marks", laid_haruspex_lex_marks)], narrowed := true }
def LexChecksUptoSaid : Prop := lexChecksUptoRow.holds Tryd.pinned (OpenSpec.upto lexChecksSpec)

/-- 'haruspexlaw37.LexKnown', WHERE WHAT IT READS IS OF BULK AT MOST 1048576: true; the input reads as it did. -/
def lexKnownUptoRow : OpenClaim := { program := "ytemlkodkohgmmaadoor", sum := "b06384bb1104cf32e13e396ad723e8b5cd7a6f3dfc44bbcc8af2b859f5a46ed5", func := "haruspex/haruspexlaw37.LexKnown", spec := "lexKnown", inPlace := ["internal/abi.NoEscape", "internal/bytealg.MakeNoZero"], unfollowed := true, recurses := true, named := ["haruspex/lex.keys", "haruspex/lex.marks"], apart := false, laid := [("haruspex/lex.keys", laid_haruspex_lex_keys), ("haruspex/lex.marks", laid_haruspex_lex_marks)], narrowed := true }
def LexKnownUptoSaid : Prop := lexKnownUptoRow.holds Tryd.pinned (OpenSpec.upto lexKnownSpec)

/-- 'haruspexlaw37.LexBack', WHERE WHAT IT READS IS OF BULK AT MOST 1048576: true; the input reads as it did. -/
def lexBackUptoRow : OpenClaim := { program := "ytemlkodkohgmmaadoor", sum := "b06384bb1104cf32e13e396ad723e8b5cd7a6f3dfc44bbcc8af2b859f5a46ed5", func := "haruspex/haruspexlaw37.LexBack", spec := "lexBack", inPlace := ["internal/abi.NoEscape", "internal/bytealg.MakeNoZero", "internal/bytealg.CountString", "internal/bytealg.IndexByteString", "internal/bytealg.IndexString"], unfollowed := true, recurses := true, named := ["haruspex/lex.keys", "haruspex/lex.marks", "internal/bytealg.MaxLen", "unicode/utf8.first", "unicode/utf8.acceptRanges"], apart := false, laid := [("unicode/utf8.acceptRanges", laid_unicode_utf8_acceptRanges), ("haruspex/lex.keys", laid_haruspex_lex_keys), ("haruspex/lex.marks", laid_haruspex_lex_marks), ("unicode/utf8.first", laid_unicode_utf8_first)], narrowed := true }
def LexBackUptoSaid : Prop := lexBackUptoRow.holds Tryd.pinned (OpenSpec.upto lexBackSpec)

end Rows
end Go.Proofs.YtemlkodkohgmmaaDoor
