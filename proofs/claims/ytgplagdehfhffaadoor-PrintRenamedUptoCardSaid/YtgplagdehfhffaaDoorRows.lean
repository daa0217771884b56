/-
  NARROWER THAN 'FOR EVERY INPUT', by the rows' own cells (each row's printed sentence says how): SyntaxParses: laid · SyntaxMays: laid · SyntaxKnown: laid · SyntaxOwn: laid · SyntaxAtoms: laid · SyntaxPlaces: laid · PrintRenamed: laid · SyntaxReads: laid.
  DERIVED. THE GIVEN ROWS OF THIS SEAT. 8 by the template 'for every input the law returns true; each argument reads behind the call as it read before'; 0 by the template 'total and deterministic' (their statements: YtgplagdehfhffaaDoorTotals.lean).
  GIVEN WITH THE SEED: the statements are not yours to turn. If you find one false, say at which input.
  Laid BY PROGRAM, IN A SANDBOX (cutbox-rows.mjs): the forced cells as the released guide's own fill.sh prints them over the translation 5db67c35a36289ce… (all of the seat's roots in one cut). By AI agents, Wed Nov 11 2026. No macro, syntax, notation, axiom, sorry.
-/
import Derived.Test.YtgplagdehfhffaaDoorChecked
import GoSem.PinnedTables
import GoSem.Claim
import GoSem.ClaimJoined
import GoSem.ClaimMapViews
import Derived.JoinedTies
import Derived.KernelRfl
namespace Go.Proofs.YtgplagdehfhffaaDoor
/- THE CELL 'sum', in the pinned program and in every row, IS THE sha256 OF THE DUMP (.gsa) THAT YtgplagdehfhffaaDoorProg.lean LOADS. Nothing in Lean hashes anything: it is a label: what it is worth is what the hold of that sum in a sandbox is worth. -/
noncomputable def Tryd.pinned : Pinned := { name := "ytgplagdehfhffaadoor", sum := "5db67c35a36289ce043825f880925b01a1c3e54aca8f3fca349e5b1647fe8e10", checked := Tryd.checked }
namespace Rows
def none {H : Type} : Left H := { results := [], args := [] }

/- WHAT THE LISTED PACKAGE-LEVEL VARIABLES READ AS WHEN THE CALL BEGINS. Each datum BY PROGRAM (the guide's laid-datum.mjs) off the statement by which the dump's own 'gosem.cut.vars' lays the variable. In a bare row this is a premise. The card (YtgplagdehfhffaaDoorCards.lean) ties it to the program's text. -/
def laid_unicode_utf8_acceptRanges {H : Type} : DataW H := .agg [.agg [.lit (.int .u8 128), .lit (.int .u8 191)], .agg [.lit (.int .u8 160), .lit (.int .u8 191)], .agg [.lit (.int .u8 128), .lit (.int .u8 159)], .agg [.lit (.int .u8 144), .lit (.int .u8 191)], .agg [.lit (.int .u8 128), .lit (.int .u8 143)], .agg [.lit (.int .u8 0), .lit (.int .u8 0)], .agg [.lit (.int .u8 0), .lit (.int .u8 0)], .agg [.lit (.int .u8 0), .lit (.int .u8 0)], .agg [.lit (.int .u8 0), .lit (.int .u8 0)], .agg [.lit (.int .u8 0), .lit (.int .u8 0)], .agg [.lit (.int .u8 0), .lit (.int .u8 0)], .agg [.lit (.int .u8 0), .lit (.int .u8 0)], .agg [.lit (.int .u8 0), .lit (.int .u8 0)], .agg [.lit (.int .u8 0), .lit (.int .u8 0)], .agg [.lit (.int .u8 0), .lit (.int .u8 0)], .agg [.lit (.int .u8 0), .lit (.int .u8 0)]]
/-- One of Go's own tables, pinned by name: the form's constant. -/
def laid_unicode_utf8_first : DataW Unit := Go.Pinned.utf8First
def laid_math_bits_deBruijn32tab {H : Type} : DataW H := .agg [.lit (.int .u8 0), .lit (.int .u8 1), .lit (.int .u8 28), .lit (.int .u8 2), .lit (.int .u8 29), .lit (.int .u8 14), .lit (.int .u8 24), .lit (.int .u8 3), .lit (.int .u8 30), .lit (.int .u8 22), .lit (.int .u8 20), .lit (.int .u8 15), .lit (.int .u8 25), .lit (.int .u8 17), .lit (.int .u8 4), .lit (.int .u8 8), .lit (.int .u8 31), .lit (.int .u8 27), .lit (.int .u8 13), .lit (.int .u8 23), .lit (.int .u8 21), .lit (.int .u8 19), .lit (.int .u8 16), .lit (.int .u8 7), .lit (.int .u8 26), .lit (.int .u8 12), .lit (.int .u8 18), .lit (.int .u8 6), .lit (.int .u8 11), .lit (.int .u8 5), .lit (.int .u8 10), .lit (.int .u8 9)]
def laid_math_bits_deBruijn64tab {H : Type} : DataW H := .agg [.lit (.int .u8 0), .lit (.int .u8 1), .lit (.int .u8 56), .lit (.int .u8 2), .lit (.int .u8 57), .lit (.int .u8 49), .lit (.int .u8 28), .lit (.int .u8 3), .lit (.int .u8 61), .lit (.int .u8 58), .lit (.int .u8 42), .lit (.int .u8 50), .lit (.int .u8 38), .lit (.int .u8 29), .lit (.int .u8 17), .lit (.int .u8 4), .lit (.int .u8 62), .lit (.int .u8 47), .lit (.int .u8 59), .lit (.int .u8 36), .lit (.int .u8 45), .lit (.int .u8 43), .lit (.int .u8 51), .lit (.int .u8 22), .lit (.int .u8 53), .lit (.int .u8 39), .lit (.int .u8 33), .lit (.int .u8 30), .lit (.int .u8 24), .lit (.int .u8 18), .lit (.int .u8 12), .lit (.int .u8 5), .lit (.int .u8 63), .lit (.int .u8 55), .lit (.int .u8 48), .lit (.int .u8 27), .lit (.int .u8 60), .lit (.int .u8 41), .lit (.int .u8 37), .lit (.int .u8 16), .lit (.int .u8 46), .lit (.int .u8 35), .lit (.int .u8 44), .lit (.int .u8 21), .lit (.int .u8 52), .lit (.int .u8 32), .lit (.int .u8 23), .lit (.int .u8 11), .lit (.int .u8 54), .lit (.int .u8 26), .lit (.int .u8 40), .lit (.int .u8 15), .lit (.int .u8 34), .lit (.int .u8 20), .lit (.int .u8 31), .lit (.int .u8 10), .lit (.int .u8 25), .lit (.int .u8 14), .lit (.int .u8 19), .lit (.int .u8 9), .lit (.int .u8 13), .lit (.int .u8 8), .lit (.int .u8 7), .lit (.int .u8 6)]
def laid_internal_strconv_uint64pow10 {H : Type} : DataW H := .agg [.lit (.int .u64 1), .lit (.int .u64 10), .lit (.int .u64 100), .lit (.int .u64 1000), .lit (.int .u64 10000), .lit (.int .u64 100000), .lit (.int .u64 1000000), .lit (.int .u64 10000000), .lit (.int .u64 100000000), .lit (.int .u64 1000000000), .lit (.int .u64 10000000000), .lit (.int .u64 100000000000), .lit (.int .u64 1000000000000), .lit (.int .u64 10000000000000), .lit (.int .u64 100000000000000), .lit (.int .u64 1000000000000000), .lit (.int .u64 10000000000000000), .lit (.int .u64 100000000000000000), .lit (.int .u64 1000000000000000000), .lit (.int .u64 10000000000000000000)]

/-- 'sibyllaw08.SyntaxParses': WHATEVER THE INPUT: true; the input reads as it did. -/
def syntaxParsesSpec : ChangeSpec := { name := "syntaxParses", fn := fun _ => fun
  | [d] => { results := [.lit (.bool true)], args := [d] }
  | _ => none }
def syntaxParsesRow : OpenClaim := { program := "ytgplagdehfhffaadoor", sum := "5db67c35a36289ce043825f880925b01a1c3e54aca8f3fca349e5b1647fe8e10", func := "sibyl/sibyllaw08.SyntaxParses", spec := "syntaxParses", inPlace := ["internal/bytealg.IndexByteString", "internal/abi.NoEscape"], unfollowed := true, recurses := true, named := ["unicode/utf8.first", "unicode/utf8.acceptRanges"], apart := false, laid := [("unicode/utf8.acceptRanges", laid_unicode_utf8_acceptRanges), ("unicode/utf8.first", laid_unicode_utf8_first)] }
def SyntaxParsesSaid : Prop := syntaxParsesRow.holds Tryd.pinned (OpenSpec.ofChange syntaxParsesSpec)

/-- ITS FALSE NEIGHBOUR: 'it returns false'. Refute it at one input. -/
def syntaxParsesWrong : ChangeSpec := { name := "syntaxParses", fn := fun _ => fun
  | [d] => { results := [.lit (.bool false)], args := [d] }
  | _ => none }
def SyntaxParsesWrongFalsely : Prop := syntaxParsesRow.holds Tryd.pinned (OpenSpec.ofChange syntaxParsesWrong)

/-- 'sibyllaw08.SyntaxMays': WHATEVER THE INPUT: true; the input reads as it did. -/
def syntaxMaysSpec : ChangeSpec := { name := "syntaxMays", fn := fun _ => fun
  | [d] => { results := [.lit (.bool true)], args := [d] }
  | _ => none }
def syntaxMaysRow : OpenClaim := { program := "ytgplagdehfhffaadoor", sum := "5db67c35a36289ce043825f880925b01a1c3e54aca8f3fca349e5b1647fe8e10", func := "sibyl/sibyllaw08.SyntaxMays", spec := "syntaxMays", inPlace := ["internal/bytealg.IndexByteString", "internal/abi.NoEscape"], unfollowed := true, recurses := true, named := ["unicode/utf8.first", "unicode/utf8.acceptRanges"], apart := false, laid := [("unicode/utf8.acceptRanges", laid_unicode_utf8_acceptRanges), ("unicode/utf8.first", laid_unicode_utf8_first)] }
def SyntaxMaysSaid : Prop := syntaxMaysRow.holds Tryd.pinned (OpenSpec.ofChange syntaxMaysSpec)

/-- ITS FALSE NEIGHBOUR: 'it returns false'. Refute it at one input. -/
def syntaxMaysWrong : ChangeSpec := { name := "syntaxMays", fn := fun _ => fun
  | [d] => { results := [.lit (.bool false)], args := [d] }
  | _ => none }
def SyntaxMaysWrongFalsely : Prop := syntaxMaysRow.holds Tryd.pinned (OpenSpec.ofChange syntaxMaysWrong)

/-- 'sibyllaw08.SyntaxKnown': WHATEVER THE INPUT: true; the input reads as it did. -/
def syntaxKnownSpec : ChangeSpec := { name := "syntaxKnown", fn := fun _ => fun
  | [] => { results := [.lit (.bool true)], args := [] }
  | _ => none }
def syntaxKnownRow : OpenClaim := { program := "ytgplagdehfhffaadoor", sum := "5db67c35a36289ce043825f880925b01a1c3e54aca8f3fca349e5b1647fe8e10", func := "sibyl/sibyllaw08.SyntaxKnown", spec := "syntaxKnown", inPlace := ["internal/bytealg.IndexByteString", "internal/abi.NoEscape"], unfollowed := true, recurses := true, named := ["unicode/utf8.first", "unicode/utf8.acceptRanges"], apart := false, laid := [("unicode/utf8.acceptRanges", laid_unicode_utf8_acceptRanges), ("unicode/utf8.first", laid_unicode_utf8_first)] }
def SyntaxKnownSaid : Prop := syntaxKnownRow.holds Tryd.pinned (OpenSpec.ofChange syntaxKnownSpec)

/-- ITS FALSE NEIGHBOUR: 'it returns false'. Refute it at one input. -/
def syntaxKnownWrong : ChangeSpec := { name := "syntaxKnown", fn := fun _ => fun
  | [] => { results := [.lit (.bool false)], args := [] }
  | _ => none }
def SyntaxKnownWrongFalsely : Prop := syntaxKnownRow.holds Tryd.pinned (OpenSpec.ofChange syntaxKnownWrong)

/-- 'sibyllaw08.SyntaxOwn': WHATEVER THE INPUT: true; the input reads as it did. -/
def syntaxOwnSpec : ChangeSpec := { name := "syntaxOwn", fn := fun _ => fun
  | [d1, d2] => { results := [.lit (.bool true)], args := [d1, d2] }
  | _ => none }
def syntaxOwnRow : OpenClaim := { program := "ytgplagdehfhffaadoor", sum := "5db67c35a36289ce043825f880925b01a1c3e54aca8f3fca349e5b1647fe8e10", func := "sibyl/sibyllaw08.SyntaxOwn", spec := "syntaxOwn", inPlace := ["internal/bytealg.IndexByteString", "internal/abi.NoEscape"], unfollowed := true, recurses := true, named := ["unicode/utf8.first", "unicode/utf8.acceptRanges"], apart := false, laid := [("unicode/utf8.acceptRanges", laid_unicode_utf8_acceptRanges), ("unicode/utf8.first", laid_unicode_utf8_first)] }
def SyntaxOwnSaid : Prop := syntaxOwnRow.holds Tryd.pinned (OpenSpec.ofChange syntaxOwnSpec)

/-- ITS FALSE NEIGHBOUR: 'it returns false'. Refute it at one input. -/
def syntaxOwnWrong : ChangeSpec := { name := "syntaxOwn", fn := fun _ => fun
  | [d1, d2] => { results := [.lit (.bool false)], args := [d1, d2] }
  | _ => none }
def SyntaxOwnWrongFalsely : Prop := syntaxOwnRow.holds Tryd.pinned (OpenSpec.ofChange syntaxOwnWrong)

/-- 'sibyllaw08.SyntaxAtoms': WHATEVER THE INPUT: true; the input reads as it did. -/
def syntaxAtomsSpec : ChangeSpec := { name := "syntaxAtoms", fn := fun _ => fun
  | [d] => { results := [.lit (.bool true)], args := [d] }
  | _ => none }
def syntaxAtomsRow : OpenClaim := { program := "ytgplagdehfhffaadoor", sum := "5db67c35a36289ce043825f880925b01a1c3e54aca8f3fca349e5b1647fe8e10", func := "sibyl/sibyllaw08.SyntaxAtoms", spec := "syntaxAtoms", inPlace := ["internal/bytealg.IndexByteString", "internal/abi.NoEscape"], unfollowed := true, recurses := true, named := ["unicode/utf8.first", "unicode/utf8.acceptRanges"], apart := false, laid := [("unicode/utf8.acceptRanges", laid_unicode_utf8_acceptRanges), ("unicode/utf8.first", laid_unicode_utf8_first)] }
def SyntaxAtomsSaid : Prop := syntaxAtomsRow.holds Tryd.pinned (OpenSpec.ofChange syntaxAtomsSpec)

/-- ITS FALSE NEIGHBOUR: 'it returns false'. Refute it at one input. -/
def syntaxAtomsWrong : ChangeSpec := { name := "syntaxAtoms", fn := fun _ => fun
  | [d] => { results := [.lit (.bool false)], args := [d] }
  | _ => none }
def SyntaxAtomsWrongFalsely : Prop := syntaxAtomsRow.holds Tryd.pinned (OpenSpec.ofChange syntaxAtomsWrong)

/-- 'sibyllaw08.SyntaxPlaces': WHATEVER THE INPUT: true; the input reads as it did. -/
def syntaxPlacesSpec : ChangeSpec := { name := "syntaxPlaces", fn := fun _ => fun
  | [d1, d2] => { results := [.lit (.bool true)], args := [d1, d2] }
  | _ => none }
def syntaxPlacesRow : OpenClaim := { program := "ytgplagdehfhffaadoor", sum := "5db67c35a36289ce043825f880925b01a1c3e54aca8f3fca349e5b1647fe8e10", func := "sibyl/sibyllaw08.SyntaxPlaces", spec := "syntaxPlaces", inPlace := ["internal/bytealg.IndexByteString", "internal/abi.NoEscape"], unfollowed := true, recurses := true, named := ["unicode/utf8.first", "unicode/utf8.acceptRanges"], apart := false, laid := [("unicode/utf8.acceptRanges", laid_unicode_utf8_acceptRanges), ("unicode/utf8.first", laid_unicode_utf8_first)] }
def SyntaxPlacesSaid : Prop := syntaxPlacesRow.holds Tryd.pinned (OpenSpec.ofChange syntaxPlacesSpec)

/-- ITS FALSE NEIGHBOUR: 'it returns false'. Refute it at one input. -/
def syntaxPlacesWrong : ChangeSpec := { name := "syntaxPlaces", fn := fun _ => fun
  | [d1, d2] => { results := [.lit (.bool false)], args := [d1, d2] }
  | _ => none }
def SyntaxPlacesWrongFalsely : Prop := syntaxPlacesRow.holds Tryd.pinned (OpenSpec.ofChange syntaxPlacesWrong)

/-- 'sibyllaw09.PrintRenamed': WHATEVER THE INPUT: true; the input reads as it did. -/
def printRenamedSpec : ChangeSpec := { name := "printRenamed", fn := fun _ => fun
  | [d1, d2, d3] => { results := [.lit (.bool true)], args := [d1, d2, d3] }
  | _ => none }
def printRenamedRow : OpenClaim := { program := "ytgplagdehfhffaadoor", sum := "5db67c35a36289ce043825f880925b01a1c3e54aca8f3fca349e5b1647fe8e10", func := "sibyl/sibyllaw09.PrintRenamed", spec := "printRenamed", inPlace := ["internal/abi.NoEscape"], unfollowed := true, recurses := true, named := ["internal/strconv.uint64pow10", "math/bits.deBruijn32tab", "math/bits.deBruijn64tab"], apart := false, laid := [("math/bits.deBruijn32tab", laid_math_bits_deBruijn32tab), ("math/bits.deBruijn64tab", laid_math_bits_deBruijn64tab), ("internal/strconv.uint64pow10", laid_internal_strconv_uint64pow10)] }
def PrintRenamedSaid : Prop := printRenamedRow.holds Tryd.pinned (OpenSpec.ofChange printRenamedSpec)

/-- ITS FALSE NEIGHBOUR: 'it returns false'. Refute it at one input. -/
def printRenamedWrong : ChangeSpec := { name := "printRenamed", fn := fun _ => fun
  | [d1, d2, d3] => { results := [.lit (.bool false)], args := [d1, d2, d3] }
  | _ => none }
def PrintRenamedWrongFalsely : Prop := printRenamedRow.holds Tryd.pinned (OpenSpec.ofChange printRenamedWrong)

/-- 'sibyllaw08.SyntaxReads': WHATEVER THE INPUT: true; the input reads as it did. -/
def syntaxReadsSpec : ChangeSpec := { name := "syntaxReads", fn := fun _ => fun
  | [d1, d2] => { results := [.lit (.bool true)], args := [d1, d2] }
  | _ => none }
def syntaxReadsRow : OpenClaim := { program := "ytgplagdehfhffaadoor", sum := "5db67c35a36289ce043825f880925b01a1c3e54aca8f3fca349e5b1647fe8e10", func := "sibyl/sibyllaw08.SyntaxReads", spec := "syntaxReads", inPlace := ["internal/bytealg.IndexByteString", "internal/abi.NoEscape"], unfollowed := true, recurses := true, named := ["unicode/utf8.first", "unicode/utf8.acceptRanges"], apart := false, laid := [("unicode/utf8.acceptRanges", laid_unicode_utf8_acceptRanges), ("unicode/utf8.first", laid_unicode_utf8_first)] }
def SyntaxReadsSaid : Prop := syntaxReadsRow.holds Tryd.pinned (OpenSpec.ofChange syntaxReadsSpec)

/-- ITS FALSE NEIGHBOUR: 'it returns false'. Refute it at one input. -/
def syntaxReadsWrong : ChangeSpec := { name := "syntaxReads", fn := fun _ => fun
  | [d1, d2] => { results := [.lit (.bool false)], args := [d1, d2] }
  | _ => none }
def SyntaxReadsWrongFalsely : Prop := syntaxReadsRow.holds Tryd.pinned (OpenSpec.ofChange syntaxReadsWrong)

/- THE SECOND FORM. 'bulk': how many values and letters a reading holds, each counted each time it is reached (what is shared counts as often as it is met; a slice's spare places count too). A statement '..UptoSaid' is the law's where the arguments, and the package variables that the reading takes, are together of bulk at most 1048576: NARROWER than '..Said'. Prove '..Said' where nothing that the law and all that it calls make is longer than what came in: it says more and counts as full. Else prove '..UptoSaid'. A law counts once. -/
mutual
def uptoBulk {H : Type} : DataW H → Nat
  | .lit (.string bytes) => bytes.length + 1
  | .lit _ => 1
  | .nil => 1
  | .ptr d => uptoBulk d + 1
  | .slice elems spare => uptoBulkAll elems + uptoBulkAll spare + 1
  | .agg parts => uptoBulkAll parts + 1
  | .iface _ d => uptoBulk d + 1
  | .map entries => uptoBulkEntries entries + 1
  | .held _ => 1
def uptoBulkAll {H : Type} : List (DataW H) → Nat
  | [] => 0
  | d :: r => uptoBulk d + uptoBulkAll r
def uptoBulkEntries {H : Type} : List (Lit × DataW H) → Nat
  | [] => 0
  | x :: r => uptoBulkEntry x + uptoBulkEntries r
def uptoBulkEntry {H : Type} : Lit × DataW H → Nat
  | (.string bytes, d) => bytes.length + uptoBulk d + 1
  | (_, d) => uptoBulk d + 1
 end
def uptoSmall : (H : Type) → List (DataW H) → Bool := fun _ ds => decide (uptoBulkAll ds ≤ 1048576)
def OpenSpec.upto (s : _root_.Go.ChangeSpec) : _root_.Go.OpenSpec := { _root_.Go.OpenSpec.ofChange s with cond := some uptoSmall }

/-- 'sibyllaw08.SyntaxParses', WHERE WHAT IT READS IS OF BULK AT MOST 1048576: true; the input reads as it did. -/
def syntaxParsesUptoRow : OpenClaim := { program := "ytgplagdehfhffaadoor", sum := "5db67c35a36289ce043825f880925b01a1c3e54aca8f3fca349e5b1647fe8e10", func := "sibyl/sibyllaw08.SyntaxParses", spec := "syntaxParses", inPlace := ["internal/bytealg.IndexByteString", "internal/abi.NoEscape"], unfollowed := true, recurses := true, named := ["unicode/utf8.first", "unicode/utf8.acceptRanges"], apart := false, laid := [("unicode/utf8.acceptRanges", laid_unicode_utf8_acceptRanges), ("unicode/utf8.first", laid_unicode_utf8_first)], narrowed := true }
def SyntaxParsesUptoSaid : Prop := syntaxParsesUptoRow.holds Tryd.pinned (OpenSpec.upto syntaxParsesSpec)

/-- 'sibyllaw08.SyntaxMays', WHERE WHAT IT READS IS OF BULK AT MOST 1048576: true; the input reads as it did. -/
def syntaxMaysUptoRow : OpenClaim := { program := "ytgplagdehfhffaadoor", sum := "5db67c35a36289ce043825f880925b01a1c3e54aca8f3fca349e5b1647fe8e10", func := "sibyl/sibyllaw08.SyntaxMays", spec := "syntaxMays", inPlace := ["internal/bytealg.IndexByteString", "internal/abi.NoEscape"], unfollowed := true, recurses := true, named := ["unicode/utf8.first", "unicode/utf8.acceptRanges"], apart := false, laid := [("unicode/utf8.acceptRanges", laid_unicode_utf8_acceptRanges), ("unicode/utf8.first", laid_unicode_utf8_first)], narrowed := true }
def SyntaxMaysUptoSaid : Prop := syntaxMaysUptoRow.holds Tryd.pinned (OpenSpec.upto syntaxMaysSpec)

/-- 'sibyllaw08.SyntaxKnown', WHERE WHAT IT READS IS OF BULK AT MOST 1048576: true; the input reads as it did. -/
def syntaxKnownUptoRow : OpenClaim := { program := "ytgplagdehfhffaadoor", sum := "5db67c35a36289ce043825f880925b01a1c3e54aca8f3fca349e5b1647fe8e10", func := "sibyl/sibyllaw08.SyntaxKnown", spec := "syntaxKnown", inPlace := ["internal/bytealg.IndexByteString", "internal/abi.NoEscape"], unfollowed := true, recurses := true, named := ["unicode/utf8.first", "unicode/utf8.acceptRanges"], apart := false, laid := [("unicode/utf8.acceptRanges", laid_unicode_utf8_acceptRanges), ("unicode/utf8.first", laid_unicode_utf8_first)], narrowed := true }
def SyntaxKnownUptoSaid : Prop := syntaxKnownUptoRow.holds Tryd.pinned (OpenSpec.upto syntaxKnownSpec)

/-- 'sibyllaw08.SyntaxOwn', WHERE WHAT IT READS IS OF BULK AT MOST 1048576: true; the input reads as it did. -/
def syntaxOwnUptoRow : OpenClaim := { program := "ytgplagdehfhffaadoor", sum := "5db67c35a36289ce043825f880925b01a1c3e54aca8f3fca349e5b1647fe8e10", func := "sibyl/sibyllaw08.SyntaxOwn", spec := "syntaxOwn", inPlace := ["internal/bytealg.IndexByteString", "internal/abi.NoEscape"], unfollowed := true, recurses := true, named := ["unicode/utf8.first", "unicode/utf8.acceptRanges"], apart := false, laid := [("unicode/utf8.acceptRanges", laid_unicode_utf8_acceptRanges), ("unicode/utf8.first", laid_unicode_utf8_first)], narrowed := true }
def SyntaxOwnUptoSaid : Prop := syntaxOwnUptoRow.holds Tryd.pinned (OpenSpec.upto syntaxOwnSpec)

/-- 'sibyllaw08.SyntaxAtoms', WHERE WHAT IT READS IS OF BULK AT MOST 1048576: true; the input reads as it did. -/
def syntaxAtomsUptoRow : OpenClaim := { program := "ytgplagdehfhffaadoor", sum := "5db67c35a36289ce043825f880925b01a1c3e54aca8f3fca349e5b1647fe8e10", func := "sibyl/sibyllaw08.SyntaxAtoms", spec := "syntaxAtoms", inPlace := ["internal/bytealg.IndexByteString", "internal/abi.NoEscape"], unfollowed := true, recurses := true, named := ["unicode/utf8.first", "unicode/utf8.acceptRanges"], apart := false, laid := [("unicode/utf8.acceptRanges", laid_unicode_utf8_acceptRanges), ("unicode/utf8.first", laid_unicode_utf8_first)], narrowed := true }
def SyntaxAtomsUptoSaid : Prop := syntaxAtomsUptoRow.holds Tryd.pinned (OpenSpec.upto syntaxAtomsSpec)

/-- 'sibyllaw08.SyntaxPlaces', WHERE WHAT IT READS IS OF BULK AT MOST 1048576: true; the input reads as it did. -/
def syntaxPlacesUptoRow : OpenClaim := { program := "ytgplagdehfhffaadoor", sum := "5db67c35a36289ce043825f880925b01a1c3e54aca8f3fca349e5b1647fe8e10", func := "sibyl/sibyllaw08.SyntaxPlaces", spec := "syntaxPlaces", inPlace := ["internal/bytealg.IndexByteString", "internal/abi.NoEscape"], unfollowed := true, recurses := true, named := ["unicode/utf8.first", "unicode/utf8.acceptRanges"], apart := false, laid := [("unicode/utf8.acceptRanges", laid_unicode_utf8_acceptRanges), ("unicode/utf8.first", laid_unicode_utf8_first)], narrowed := true }
def SyntaxPlacesUptoSaid : Prop := syntaxPlacesUptoRow.holds Tryd.pinned (OpenSpec.upto syntaxPlacesSpec)

/-- 'sibyllaw09.PrintRenamed', WHERE WHAT IT READS IS OF BULK AT MOST 1048576: true; the input reads as it did. -/
def printRenamedUptoRow : OpenClaim := { program := "ytgplagdehfhffaadoor", sum := "5db67c35a36289ce043825f880925b01a1c3e54aca8f3fca349e5b1647fe8e10", func := "sibyl/sibyllaw09.PrintRenamed", spec := "printRenamed", inPlace := ["internal/abi.NoEscape"], unfollowed := true, recurses := true, named := ["internal/strconv.uint64pow10", "math/bits.deBruijn32tab", "math/bits.deBruijn64tab"], apart := false, laid := [("math/bits.deBruijn32tab", laid_math_bits_deBruijn32tab), ("math/bits.deBruijn64tab", laid_math_bits_deBruijn64tab), ("internal/strconv.uint64pow10", laid_internal_strconv_uint64pow10)], narrowed := true }
def PrintRenamedUptoSaid : Prop := printRenamedUptoRow.holds Tryd.pinned (OpenSpec.upto printRenamedSpec)

/-- 'sibyllaw08.SyntaxReads', WHERE WHAT IT READS IS OF BULK AT MOST 1048576: true; the input reads as it did. -/
def syntaxReadsUptoRow : OpenClaim := { program := "ytgplagdehfhffaadoor", sum := "5db67c35a36289ce043825f880925b01a1c3e54aca8f3fca349e5b1647fe8e10", func := "sibyl/sibyllaw08.SyntaxReads", spec := "syntaxReads", inPlace := ["internal/bytealg.IndexByteString", "internal/abi.NoEscape"], unfollowed := true, recurses := true, named := ["unicode/utf8.first", "unicode/utf8.acceptRanges"], apart := false, laid := [("unicode/utf8.acceptRanges", laid_unicode_utf8_acceptRanges), ("unicode/utf8.first", laid_unicode_utf8_first)], narrowed := true }
def SyntaxReadsUptoSaid : Prop := syntaxReadsUptoRow.holds Tryd.pinned (OpenSpec.upto syntaxReadsSpec)

end Rows
end Go.Proofs.YtgplagdehfhffaaDoor
