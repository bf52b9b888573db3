/-
  NARROWER THAN 'FOR EVERY INPUT', by the rows' own cells (each row's printed sentence says how): ParseChecks: loops, laid · ParseReads: laid · ParseLong: laid · ParseFewest: laid · ParseStops: laid · ParseKnown: laid · ParseBack: loops, laid.
  DERIVED. THE GIVEN ROWS OF THIS SEAT. 7 by the template 'for every input the law returns true; each argument reads behind the call as it read before'; 0 by the template 'total and deterministic' (their statements: YtohfoaplnjcihaaGreatDoorTotals.lean).
  GIVEN WITH THE SEED: the statements are not yours to turn. If you find one false, say at which input.
  Laid BY PROGRAM, IN A SANDBOX (cutbox-rows.mjs): the forced cells as the released guide's own fill.sh prints them over the translation 33417b1720dd35be… (all of the seat's roots in one cut). By AI agents, Wed Nov 11 2026. No macro, syntax, notation, axiom, sorry.
-/
import Derived.Test.YtohfoaplnjcihaaGreatDoorChecked
import GoSem.PinnedTables
import GoSem.Claim
import GoSem.ClaimJoined
import GoSem.ClaimMapViews
import Derived.JoinedTies
import Derived.KernelRfl
namespace Go.Proofs.YtohfoaplnjcihaaGreatDoor
/- THE CELL 'sum', in the pinned program and in every row, IS THE sha256 OF THE DUMP (.gsa) THAT YtohfoaplnjcihaaGreatDoorProg.lean LOADS. Nothing in Lean hashes anything: it is a label: what it is worth is what the hold of that sum in a sandbox is worth. -/
noncomputable def Tryz.pinned : Pinned := { name := "ytohfoaplnjcihaagreatdoor", sum := "33417b1720dd35bed770a42560f7f31c26cd13f9cf06ddbb30683b47cd00f6e2", checked := Tryz.checked }
namespace Rows
def none {H : Type} : Left H := { results := [], args := [] }

/- WHAT THE LISTED PACKAGE-LEVEL VARIABLES READ AS WHEN THE CALL BEGINS. Each datum BY PROGRAM (the guide's laid-datum.mjs) off the statement by which the dump's own 'gosem.cut.vars' lays the variable. In a bare row this is a premise. The card (YtohfoaplnjcihaaGreatDoorCards.lean) ties it to the program's text. -/
def laid_math_bits_deBruijn32tab {H : Type} : DataW H := .agg [.lit (.int .u8 0), .lit (.int .u8 1), .lit (.int .u8 28), .lit (.int .u8 2), .lit (.int .u8 29), .lit (.int .u8 14), .lit (.int .u8 24), .lit (.int .u8 3), .lit (.int .u8 30), .lit (.int .u8 22), .lit (.int .u8 20), .lit (.int .u8 15), .lit (.int .u8 25), .lit (.int .u8 17), .lit (.int .u8 4), .lit (.int .u8 8), .lit (.int .u8 31), .lit (.int .u8 27), .lit (.int .u8 13), .lit (.int .u8 23), .lit (.int .u8 21), .lit (.int .u8 19), .lit (.int .u8 16), .lit (.int .u8 7), .lit (.int .u8 26), .lit (.int .u8 12), .lit (.int .u8 18), .lit (.int .u8 6), .lit (.int .u8 11), .lit (.int .u8 5), .lit (.int .u8 10), .lit (.int .u8 9)]
def laid_math_bits_deBruijn64tab {H : Type} : DataW H := .agg [.lit (.int .u8 0), .lit (.int .u8 1), .lit (.int .u8 56), .lit (.int .u8 2), .lit (.int .u8 57), .lit (.int .u8 49), .lit (.int .u8 28), .lit (.int .u8 3), .lit (.int .u8 61), .lit (.int .u8 58), .lit (.int .u8 42), .lit (.int .u8 50), .lit (.int .u8 38), .lit (.int .u8 29), .lit (.int .u8 17), .lit (.int .u8 4), .lit (.int .u8 62), .lit (.int .u8 47), .lit (.int .u8 59), .lit (.int .u8 36), .lit (.int .u8 45), .lit (.int .u8 43), .lit (.int .u8 51), .lit (.int .u8 22), .lit (.int .u8 53), .lit (.int .u8 39), .lit (.int .u8 33), .lit (.int .u8 30), .lit (.int .u8 24), .lit (.int .u8 18), .lit (.int .u8 12), .lit (.int .u8 5), .lit (.int .u8 63), .lit (.int .u8 55), .lit (.int .u8 48), .lit (.int .u8 27), .lit (.int .u8 60), .lit (.int .u8 41), .lit (.int .u8 37), .lit (.int .u8 16), .lit (.int .u8 46), .lit (.int .u8 35), .lit (.int .u8 44), .lit (.int .u8 21), .lit (.int .u8 52), .lit (.int .u8 32), .lit (.int .u8 23), .lit (.int .u8 11), .lit (.int .u8 54), .lit (.int .u8 26), .lit (.int .u8 40), .lit (.int .u8 15), .lit (.int .u8 34), .lit (.int .u8 20), .lit (.int .u8 31), .lit (.int .u8 10), .lit (.int .u8 25), .lit (.int .u8 14), .lit (.int .u8 19), .lit (.int .u8 9), .lit (.int .u8 13), .lit (.int .u8 8), .lit (.int .u8 7), .lit (.int .u8 6)]
def laid_internal_strconv_uint64pow10 {H : Type} : DataW H := .agg [.lit (.int .u64 1), .lit (.int .u64 10), .lit (.int .u64 100), .lit (.int .u64 1000), .lit (.int .u64 10000), .lit (.int .u64 100000), .lit (.int .u64 1000000), .lit (.int .u64 10000000), .lit (.int .u64 100000000), .lit (.int .u64 1000000000), .lit (.int .u64 10000000000), .lit (.int .u64 100000000000), .lit (.int .u64 1000000000000), .lit (.int .u64 10000000000000), .lit (.int .u64 100000000000000), .lit (.int .u64 1000000000000000), .lit (.int .u64 10000000000000000), .lit (.int .u64 100000000000000000), .lit (.int .u64 1000000000000000000), .lit (.int .u64 10000000000000000000)]
def laid_haruspex_lex_keys {H : Type} : DataW H := .agg [.lit (.string [103, 114, 97, 105, 110]), .lit (.string [112, 108, 97, 116, 101]), .lit (.string [110, 111, 100, 101]), .lit (.string [99, 104, 111, 111, 115, 101]), .lit (.string [103, 97, 105, 110]), .lit (.string [102, 114, 111, 109]), .lit (.string [115, 101, 101, 105, 110, 103]), .lit (.string [101, 108, 115, 101]), .lit (.string [97, 110, 100]), .lit (.string [111, 114]), .lit (.string [110, 111, 116]), .lit (.string [105, 110]), .lit (.string [97, 108, 108]), .lit (.string [99, 111, 117, 110, 116])]
def laid_haruspex_lex_marks {H : Type} : DataW H := .agg [.lit (.string [58]), .lit (.string [59]), .lit (.string [44]), .lit (.string [40]), .lit (.string [41]), .lit (.string [91]), .lit (.string [93]), .lit (.string [123]), .lit (.string [125]), .lit (.string [61]), .lit (.string [60]), .lit (.string [43]), .lit (.string [45]), .lit (.string [47, 61]), .lit (.string [60, 61]), .lit (.string [46, 46])]
def laid_unicode_utf8_acceptRanges {H : Type} : DataW H := .agg [.agg [.lit (.int .u8 128), .lit (.int .u8 191)], .agg [.lit (.int .u8 160), .lit (.int .u8 191)], .agg [.lit (.int .u8 128), .lit (.int .u8 159)], .agg [.lit (.int .u8 144), .lit (.int .u8 191)], .agg [.lit (.int .u8 128), .lit (.int .u8 143)], .agg [.lit (.int .u8 0), .lit (.int .u8 0)], .agg [.lit (.int .u8 0), .lit (.int .u8 0)], .agg [.lit (.int .u8 0), .lit (.int .u8 0)], .agg [.lit (.int .u8 0), .lit (.int .u8 0)], .agg [.lit (.int .u8 0), .lit (.int .u8 0)], .agg [.lit (.int .u8 0), .lit (.int .u8 0)], .agg [.lit (.int .u8 0), .lit (.int .u8 0)], .agg [.lit (.int .u8 0), .lit (.int .u8 0)], .agg [.lit (.int .u8 0), .lit (.int .u8 0)], .agg [.lit (.int .u8 0), .lit (.int .u8 0)], .agg [.lit (.int .u8 0), .lit (.int .u8 0)]]
/-- One of Go's own tables, pinned by name: the form's constant. -/
def laid_unicode_utf8_first : DataW Unit := Go.Pinned.utf8First

/-- 'haruspexlaw38.ParseChecks': WHATEVER THE INPUT: true; the input reads as it did. -/
def parseChecksSpec : ChangeSpec := { name := "parseChecks", fn := fun _ => fun
  | [d1, d2, d3, d4, d5] => { results := [.lit (.bool true)], args := [d1, d2, d3, d4, d5] }
  | _ => none }
def parseChecksRow : OpenClaim := { program := "ytohfoaplnjcihaagreatdoor", sum := "33417b1720dd35bed770a42560f7f31c26cd13f9cf06ddbb30683b47cd00f6e2", func := "haruspex/haruspexlaw38.ParseChecks", spec := "parseChecks", inPlace := ["internal/abi.NoEscape"], unfollowed := true, recurses := true, named := ["haruspex/lex.keys", "haruspex/lex.marks", "internal/strconv.uint64pow10", "math/bits.deBruijn32tab", "math/bits.deBruijn64tab"], loops := true, apart := false, laid := [("math/bits.deBruijn32tab", laid_math_bits_deBruijn32tab), ("math/bits.deBruijn64tab", laid_math_bits_deBruijn64tab), ("internal/strconv.uint64pow10", laid_internal_strconv_uint64pow10), ("haruspex/lex.keys", laid_haruspex_lex_keys), ("haruspex/lex.marks", laid_haruspex_lex_marks)] }
def ParseChecksSaid : Prop := parseChecksRow.holds Tryz.pinned (OpenSpec.ofChange parseChecksSpec)

/-- ITS FALSE NEIGHBOUR: 'it returns false'. Refute it at one input. -/
def parseChecksWrong : ChangeSpec := { name := "parseChecks", fn := fun _ => fun
  | [d1, d2, d3, d4, d5] => { results := [.lit (.bool false)], args := [d1, d2, d3, d4, d5] }
  | _ => none }
def ParseChecksWrongFalsely : Prop := parseChecksRow.holds Tryz.pinned (OpenSpec.ofChange parseChecksWrong)

/-- 'haruspexlaw38.ParseReads': WHATEVER THE INPUT: true; the input reads as it did. -/
def parseReadsSpec : ChangeSpec := { name := "parseReads", fn := fun _ => fun
  | [d1, d2, d3, d4, d5, d6] => { results := [.lit (.bool true)], args := [d1, d2, d3, d4, d5, d6] }
  | _ => none }
def parseReadsRow : OpenClaim := { program := "ytohfoaplnjcihaagreatdoor", sum := "33417b1720dd35bed770a42560f7f31c26cd13f9cf06ddbb30683b47cd00f6e2", func := "haruspex/haruspexlaw38.ParseReads", spec := "parseReads", inPlace := ["internal/abi.NoEscape"], unfollowed := true, recurses := true, named := ["haruspex/lex.keys", "haruspex/lex.marks", "internal/strconv.uint64pow10", "math/bits.deBruijn32tab", "math/bits.deBruijn64tab"], apart := false, laid := [("math/bits.deBruijn32tab", laid_math_bits_deBruijn32tab), ("math/bits.deBruijn64tab", laid_math_bits_deBruijn64tab), ("internal/strconv.uint64pow10", laid_internal_strconv_uint64pow10), ("haruspex/lex.keys", laid_haruspex_lex_keys), ("haruspex/lex.marks", laid_haruspex_lex_marks)] }
def ParseReadsSaid : Prop := parseReadsRow.holds Tryz.pinned (OpenSpec.ofChange parseReadsSpec)

/-- ITS FALSE NEIGHBOUR: 'it returns false'. Refute it at one input. -/
def parseReadsWrong : ChangeSpec := { name := "parseReads", fn := fun _ => fun
  | [d1, d2, d3, d4, d5, d6] => { results := [.lit (.bool false)], args := [d1, d2, d3, d4, d5, d6] }
  | _ => none }
def ParseReadsWrongFalsely : Prop := parseReadsRow.holds Tryz.pinned (OpenSpec.ofChange parseReadsWrong)

/-- 'haruspexlaw38.ParseLong': WHATEVER THE INPUT: true; the input reads as it did. -/
def parseLongSpec : ChangeSpec := { name := "parseLong", fn := fun _ => fun
  | [d1, d2] => { results := [.lit (.bool true)], args := [d1, d2] }
  | _ => none }
def parseLongRow : OpenClaim := { program := "ytohfoaplnjcihaagreatdoor", sum := "33417b1720dd35bed770a42560f7f31c26cd13f9cf06ddbb30683b47cd00f6e2", func := "haruspex/haruspexlaw38.ParseLong", spec := "parseLong", inPlace := ["internal/abi.NoEscape"], unfollowed := true, recurses := true, named := ["haruspex/lex.keys", "haruspex/lex.marks", "internal/strconv.uint64pow10", "math/bits.deBruijn32tab", "math/bits.deBruijn64tab"], apart := false, laid := [("math/bits.deBruijn32tab", laid_math_bits_deBruijn32tab), ("math/bits.deBruijn64tab", laid_math_bits_deBruijn64tab), ("internal/strconv.uint64pow10", laid_internal_strconv_uint64pow10), ("haruspex/lex.keys", laid_haruspex_lex_keys), ("haruspex/lex.marks", laid_haruspex_lex_marks)] }
def ParseLongSaid : Prop := parseLongRow.holds Tryz.pinned (OpenSpec.ofChange parseLongSpec)

/-- ITS FALSE NEIGHBOUR: 'it returns false'. Refute it at one input. -/
def parseLongWrong : ChangeSpec := { name := "parseLong", fn := fun _ => fun
  | [d1, d2] => { results := [.lit (.bool false)], args := [d1, d2] }
  | _ => none }
def ParseLongWrongFalsely : Prop := parseLongRow.holds Tryz.pinned (OpenSpec.ofChange parseLongWrong)

/-- 'haruspexlaw38.ParseFewest': WHATEVER THE INPUT: true; the input reads as it did. -/
def parseFewestSpec : ChangeSpec := { name := "parseFewest", fn := fun _ => fun
  | [d] => { results := [.lit (.bool true)], args := [d] }
  | _ => none }
def parseFewestRow : OpenClaim := { program := "ytohfoaplnjcihaagreatdoor", sum := "33417b1720dd35bed770a42560f7f31c26cd13f9cf06ddbb30683b47cd00f6e2", func := "haruspex/haruspexlaw38.ParseFewest", spec := "parseFewest", inPlace := ["internal/abi.NoEscape"], unfollowed := true, recurses := true, named := ["haruspex/lex.keys", "haruspex/lex.marks", "internal/strconv.uint64pow10", "math/bits.deBruijn32tab", "math/bits.deBruijn64tab"], apart := false, laid := [("math/bits.deBruijn32tab", laid_math_bits_deBruijn32tab), ("math/bits.deBruijn64tab", laid_math_bits_deBruijn64tab), ("internal/strconv.uint64pow10", laid_internal_strconv_uint64pow10), ("haruspex/lex.keys", laid_haruspex_lex_keys), ("haruspex/lex.marks", laid_haruspex_lex_marks)] }
def ParseFewestSaid : Prop := parseFewestRow.holds Tryz.pinned (OpenSpec.ofChange parseFewestSpec)

/-- ITS FALSE NEIGHBOUR: 'it returns false'. Refute it at one input. -/
def parseFewestWrong : ChangeSpec := { name := "parseFewest", fn := fun _ => fun
  | [d] => { results := [.lit (.bool false)], args := [d] }
  | _ => none }
def ParseFewestWrongFalsely : Prop := parseFewestRow.holds Tryz.pinned (OpenSpec.ofChange parseFewestWrong)

/-- 'haruspexlaw38.ParseStops': WHATEVER THE INPUT: true; the input reads as it did. -/
def parseStopsSpec : ChangeSpec := { name := "parseStops", fn := fun _ => fun
  | [d1, d2, d3] => { results := [.lit (.bool true)], args := [d1, d2, d3] }
  | _ => none }
def parseStopsRow : OpenClaim := { program := "ytohfoaplnjcihaagreatdoor", sum := "33417b1720dd35bed770a42560f7f31c26cd13f9cf06ddbb30683b47cd00f6e2", func := "haruspex/haruspexlaw38.ParseStops", spec := "parseStops", inPlace := ["internal/abi.NoEscape"], unfollowed := true, recurses := true, named := ["haruspex/lex.keys", "haruspex/lex.marks", "internal/strconv.uint64pow10", "math/bits.deBruijn32tab", "math/bits.deBruijn64tab"], apart := false, laid := [("math/bits.deBruijn32tab", laid_math_bits_deBruijn32tab), ("math/bits.deBruijn64tab", laid_math_bits_deBruijn64tab), ("internal/strconv.uint64pow10", laid_internal_strconv_uint64pow10), ("haruspex/lex.keys", laid_haruspex_lex_keys), ("haruspex/lex.marks", laid_haruspex_lex_marks)] }
def ParseStopsSaid : Prop := parseStopsRow.holds Tryz.pinned (OpenSpec.ofChange parseStopsSpec)

/-- ITS FALSE NEIGHBOUR: 'it returns false'. Refute it at one input. -/
def parseStopsWrong : ChangeSpec := { name := "parseStops", fn := fun _ => fun
  | [d1, d2, d3] => { results := [.lit (.bool false)], args := [d1, d2, d3] }
  | _ => none }
def ParseStopsWrongFalsely : Prop := parseStopsRow.holds Tryz.pinned (OpenSpec.ofChange parseStopsWrong)

/-- 'haruspexlaw38.ParseKnown': WHATEVER THE INPUT: true; the input reads as it did. -/
def parseKnownSpec : ChangeSpec := { name := "parseKnown", fn := fun _ => fun
  | [] => { results := [.lit (.bool true)], args := [] }
  | _ => none }
def parseKnownRow : OpenClaim := { program := "ytohfoaplnjcihaagreatdoor", sum := "33417b1720dd35bed770a42560f7f31c26cd13f9cf06ddbb30683b47cd00f6e2", func := "haruspex/haruspexlaw38.ParseKnown", spec := "parseKnown", inPlace := ["internal/abi.NoEscape", "internal/bytealg.MakeNoZero"], unfollowed := true, recurses := true, named := ["haruspex/lex.keys", "haruspex/lex.marks", "internal/strconv.uint64pow10", "math/bits.deBruijn32tab", "math/bits.deBruijn64tab"], apart := false, laid := [("math/bits.deBruijn32tab", laid_math_bits_deBruijn32tab), ("math/bits.deBruijn64tab", laid_math_bits_deBruijn64tab), ("internal/strconv.uint64pow10", laid_internal_strconv_uint64pow10), ("haruspex/lex.keys", laid_haruspex_lex_keys), ("haruspex/lex.marks", laid_haruspex_lex_marks)] }
def ParseKnownSaid : Prop := parseKnownRow.holds Tryz.pinned (OpenSpec.ofChange parseKnownSpec)

/-- ITS FALSE NEIGHBOUR: 'it returns false'. Refute it at one input. -/
def parseKnownWrong : ChangeSpec := { name := "parseKnown", fn := fun _ => fun
  | [] => { results := [.lit (.bool false)], args := [] }
  | _ => none }
def ParseKnownWrongFalsely : Prop := parseKnownRow.holds Tryz.pinned (OpenSpec.ofChange parseKnownWrong)

/-- 'haruspexlaw38.ParseBack': WHATEVER THE INPUT: true; the input reads as it did. -/
def parseBackSpec : ChangeSpec := { name := "parseBack", fn := fun _ => fun
  | [d1, d2, d3, d4] => { results := [.lit (.bool true)], args := [d1, d2, d3, d4] }
  | _ => none }
def parseBackRow : OpenClaim := { program := "ytohfoaplnjcihaagreatdoor", sum := "33417b1720dd35bed770a42560f7f31c26cd13f9cf06ddbb30683b47cd00f6e2", func := "haruspex/haruspexlaw38.ParseBack", spec := "parseBack", inPlace := ["internal/abi.NoEscape", "internal/bytealg.CountString", "internal/bytealg.IndexByteString", "internal/bytealg.IndexString", "internal/bytealg.MakeNoZero"], unfollowed := true, recurses := true, named := ["haruspex/lex.keys", "haruspex/lex.marks", "internal/strconv.uint64pow10", "math/bits.deBruijn32tab", "math/bits.deBruijn64tab", "internal/bytealg.MaxLen", "unicode/utf8.first", "unicode/utf8.acceptRanges"], loops := true, apart := false, laid := [("math/bits.deBruijn32tab", laid_math_bits_deBruijn32tab), ("math/bits.deBruijn64tab", laid_math_bits_deBruijn64tab), ("internal/strconv.uint64pow10", laid_internal_strconv_uint64pow10), ("unicode/utf8.acceptRanges", laid_unicode_utf8_acceptRanges), ("haruspex/lex.keys", laid_haruspex_lex_keys), ("haruspex/lex.marks", laid_haruspex_lex_marks), ("unicode/utf8.first", laid_unicode_utf8_first)] }
def ParseBackSaid : Prop := parseBackRow.holds Tryz.pinned (OpenSpec.ofChange parseBackSpec)

/-- ITS FALSE NEIGHBOUR: 'it returns false'. Refute it at one input. -/
def parseBackWrong : ChangeSpec := { name := "parseBack", fn := fun _ => fun
  | [d1, d2, d3, d4] => { results := [.lit (.bool false)], args := [d1, d2, d3, d4] }
  | _ => none }
def ParseBackWrongFalsely : Prop := parseBackRow.holds Tryz.pinned (OpenSpec.ofChange parseBackWrong)

/- THE SECOND FORM. 'bulk': how many values and letters a reading holds, each counted each time it is reached (what is shared counts as often as it is met; a slice's spare places count too). A statement '..UptoSaid' is the law's where the arguments, and the package variables that the reading takes, are together of bulk at most 1048576: NARROWER than '..Said'. Prove '..Said' where nothing that the law and all that it calls make is longer than what came in: it says more and counts as full. Else prove '..UptoSaid'. A law counts once. -/
mutual
def uptoBulk {H : Type} : DataW H → Nat
  | .lit (.string bytes) => bytes.length + 1
  | .lit _ => 1
  | .nil => 1
  | .ptr d => uptoBulk d + 1
  | .slice elems spare => uptoBulkAll elems + uptoBulkAll spare + 1
  | .agg parts => uptoBulkAll parts + 1
  | .iface _ d => uptoBulk d + 1
  | .map entries => uptoBulkEntries entries + 1
  | .held _ => 1
def uptoBulkAll {H : Type} : List (DataW H) → Nat
  | [] => 0
  | d :: r => uptoBulk d + uptoBulkAll r
def uptoBulkEntries {H : Type} : List (Lit × DataW H) → Nat
  | [] => 0
  | x :: r => uptoBulkEntry x + uptoBulkEntries r
def uptoBulkEntry {H : Type} : Lit × DataW H → Nat
  | (.string bytes, d) => bytes.length + uptoBulk d + 1
  | (_, d) => uptoBulk d + 1
 end
def uptoSmall : (H : Type) → List (DataW H) → Bool := fun _ ds => decide (uptoBulkAll ds ≤ 1048576)
def OpenSpec.upto (s : _root_.Go.ChangeSpec) : _root_.Go.OpenSpec := { _root_.Go.OpenSpec.ofChange s with cond := some uptoSmall }

/-- 'haruspexlaw38.ParseChecks', WHERE WHAT IT READS IS OF BULK AT MOST 1048576: true; the input reads as it did. -/
def parseChecksUptoRow : OpenClaim := { program := "ytohfoaplnjcihaagreatdoor", sum := "33417b1720dd35bed770a42560f7f31c26cd13f9cf06ddbb30683b47cd00f6e2", func := "haruspex/haruspexlaw38.ParseChecks", spec := "parseChecks", inPlace := ["internal/abi.NoEscape"], unfollowed := true, recurses := true, named := ["haruspex/lex.keys", "haruspex/lex.marks", "internal/strconv.uint64pow10", "math/bits.deBruijn32tab", "math/bits.deBruijn64tab"], loops := true, apart := false, laid := [("math/bits.deBruijn32tab", laid_math_bits_deBruijn32tab), ("math/bits.deBruijn64tab", laid_math_bits_deBruijn64tab), ("internal/strconv.uint64pow10", laid_internal_strconv_uint64pow10), ("haruspex/lex.keys", laid_haruspex_lex_keys), ("haruspex/lex.marks", laid_haruspex_lex_marks)], narrowed := true }
def ParseChecksUptoSaid : Prop := parseChecksUptoRow.holds Tryz.pinned (OpenSpec.upto parseChecksSpec)

/-- 'haruspexlaw38.ParseReads', WHERE WHAT IT READS IS OF BULK AT MOST 1048576: true; the input reads as it did. -/
def parseReadsUptoRow : OpenClaim := { program := "ytohfoaplnjcihaagreatdoor", sum := "33417b1720dd35bed770a42560f7f31c26cd13f9cf06ddbb30683b47cd00f6e2", func := "haruspex/haruspexlaw38.ParseReads", spec := "parseReads", inPlace := ["internal/abi.NoEscape"], unfollowed := true, recurses := true, named := ["haruspex/lex.keys", "haruspex/lex.marks", "internal/strconv.uint64pow10", "math/bits.deBruijn32tab", "math/bits.deBruijn64tab"], apart := false, laid := [("math/bits.deBruijn32tab", laid_math_bits_deBruijn32tab), ("math/bits.deBruijn64tab", laid_math_bits_deBruijn64tab), ("internal/strconv.uint64pow10", laid_internal_strconv_uint64pow10), ("haruspex/lex.keys", laid_haruspex_lex_keys), ("haruspex/lex.marks", laid_haruspex_lex_marks)], narrowed := true }
def ParseReadsUptoSaid : Prop := parseReadsUptoRow.holds Tryz.pinned (OpenSpec.upto parseReadsSpec)

/-- 'haruspexlaw38.ParseLong', WHERE WHAT IT READS IS OF BULK AT MOST 1048576: true; the input reads as it did. -/
def parseLongUptoRow : OpenClaim := { program := "ytohfoaplnjcihaagreatdoor", sum := "33417b1720dd35bed770a42560f7f31c26cd13f9cf06ddbb30683b47cd00f6e2", func := "haruspex/haruspexlaw38.ParseLong", spec := "parseLong", inPlace := ["internal/abi.NoEscape"], unfollowed := true, recurses := true, named := ["haruspex/lex.keys", "haruspex/lex.marks", "internal/strconv.uint64pow10", "math/bits.deBruijn32tab", "math/bits.deBruijn64tab"], apart := false, laid := [("math/bits.deBruijn32tab", laid_math_bits_deBruijn32tab), ("math/bits.deBruijn64tab", laid_math_bits_deBruijn64tab), ("internal/strconv.uint64pow10", laid_internal_strconv_uint64pow10), ("haruspex/lex.keys", laid_haruspex_lex_keys), ("haruspex/lex.marks", laid_haruspex_lex_marks)], narrowed := true }
def ParseLongUptoSaid : Prop := parseLongUptoRow.holds Tryz.pinned (OpenSpec.upto parseLongSpec)

/-- 'haruspexlaw38.ParseFewest', WHERE WHAT IT READS IS OF BULK AT MOST 1048576: true; the input reads as it did. -/
def parseFewestUptoRow : OpenClaim := { program := "ytohfoaplnjcihaagreatdoor", sum := "33417b1720dd35bed770a42560f7f31c26cd13f9cf06ddbb30683b47cd00f6e2", func := "haruspex/haruspexlaw38.ParseFewest", spec := "parseFewest", inPlace := ["internal/abi.NoEscape"], unfollowed := true, recurses := true, named := ["haruspex/lex.keys", "haruspex/lex.marks", "internal/strconv.uint64pow10", "math/bits.deBruijn32tab", "math/bits.deBruijn64tab"], apart := false, laid := [("math/bits.deBruijn32tab", laid_math_bits_deBruijn32tab), ("math/bits.deBruijn64tab", laid_math_bits_deBruijn64tab), ("internal/strconv.uint64pow10", laid_internal_strconv_uint64pow10), ("haruspex/lex.keys", laid_haruspex_lex_keys), ("haruspex/lex.marks", laid_haruspex_lex_marks)], narrowed := true }
def ParseFewestUptoSaid : Prop := parseFewestUptoRow.holds Tryz.pinned (OpenSpec.upto parseFewestSpec)

/-- 'haruspexlaw38.ParseStops', WHERE WHAT IT READS IS OF BULK AT MOST 1048576: true; the input reads as it did. -/
def parseStopsUptoRow : OpenClaim := { program := "ytohfoaplnjcihaagreatdoor", sum := "33417b1720dd35bed770a42560f7f31c26cd13f9cf06ddbb30683b47cd00f6e2", func := "haruspex/haruspexlaw38.ParseStops", spec := "parseStops", inPlace := ["internal/abi.NoEscape"], unfollowed := true, recurses := true, named := ["haruspex/lex.keys", "haruspex/lex.marks", "internal/strconv.uint64pow10", "math/bits.deBruijn32tab", "math/bits.deBruijn64tab"], apart := false, laid := [("math/bits.deBruijn32tab", laid_math_bits_deBruijn32tab), ("math/bits.deBruijn64tab", laid_math_bits_deBruijn64tab), ("internal/strconv.uint64pow10", laid_internal_strconv_uint64pow10), ("haruspex/lex.keys", laid_haruspex_lex_keys), ("haruspex/lex.marks", laid_haruspex_lex_marks)], narrowed := true }
def ParseStopsUptoSaid : Prop := parseStopsUptoRow.holds Tryz.pinned (OpenSpec.upto parseStopsSpec)

/-- 'haruspexlaw38.ParseKnown', WHERE WHAT IT READS IS OF BULK AT MOST 1048576: true; the input reads as it did. -/
def parseKnownUptoRow : OpenClaim := { program := "ytohfoaplnjcihaagreatdoor", sum := "33417b1720dd35bed770a42560f7f31c26cd13f9cf06ddbb30683b47cd00f6e2", func := "haruspex/haruspexlaw38.ParseKnown", spec := "parseKnown", inPlace := ["internal/abi.NoEscape", "internal/bytealg.MakeNoZero"], unfollowed := true, recurses := true, named := ["haruspex/lex.keys", "haruspex/lex.marks", "internal/strconv.uint64pow10", "math/bits.deBruijn32tab", "math/bits.deBruijn64tab"], apart := false, laid := [("math/bits.deBruijn32tab", laid_math_bits_deBruijn32tab), ("math/bits.deBruijn64tab", laid_math_bits_deBruijn64tab), ("internal/strconv.uint64pow10", laid_internal_strconv_uint64pow10), ("haruspex/lex.keys", laid_haruspex_lex_keys), ("haruspex/lex.marks", laid_haruspex_lex_marks)], narrowed := true }
def ParseKnownUptoSaid : Prop := parseKnownUptoRow.holds Tryz.pinned (OpenSpec.upto parseKnownSpec)

/-- 'haruspexlaw38.ParseBack', WHERE WHAT IT READS IS OF BULK AT MOST 1048576: true; the input reads as it did. -/
def parseBackUptoRow : OpenClaim := { program := "ytohfoaplnjcihaagreatdoor", sum := "33417b1720dd35bed770a42560f7f31c26cd13f9cf06ddbb30683b47cd00f6e2", func := "haruspex/haruspexlaw38.ParseBack", spec := "parseBack", inPlace := ["internal/abi.NoEscape", "internal/bytealg.CountString", "internal/bytealg.IndexByteString", "internal/bytealg.IndexString", "internal/bytealg.MakeNoZero"], unfollowed := true, recurses := true, named := ["haruspex/lex.keys", "haruspex/lex.marks", "internal/strconv.uint64pow10", "math/bits.deBruijn32tab", "math/bits.deBruijn64tab", "internal/bytealg.MaxLen", "unicode/utf8.first", "unicode/utf8.acceptRanges"], loops := true, apart := false, laid := [("math/bits.deBruijn32tab", laid_math_bits_deBruijn32tab), ("math/bits.deBruijn64tab", laid_math_bits_deBruijn64tab), ("internal/strconv.uint64pow10", laid_internal_strconv_uint64pow10), ("unicode/utf8.acceptRanges", laid_unicode_utf8_acceptRanges), ("haruspex/lex.keys", laid_haruspex_lex_keys), ("haruspex/lex.marks", laid_haruspex_lex_marks), ("unicode/utf8.first", laid_unicode_utf8_first)], narrowed := true }
def ParseBackUptoSaid : Prop := parseBackUptoRow.holds Tryz.pinned (OpenSpec.upto parseBackSpec)

end Rows
end Go.Proofs.YtohfoaplnjcihaaGreatDoor
