/-
  DERIVED. GIVEN WITH THE SEED: THE CARDS: each row of YtidgpcjnfkhjoaaDoorRows.lean that lists a variable, with what it lists TIED to the program's text (the seventh form; the later family's looks); each row that meets fmt, with fmt's text TOLD by the authors' own Lean function (tested against real Go, not proved from fmt's source: count such statements apart). THE CARD IS WHAT COUNTS. Prove the row's statement (the work); the ties are given (YtidgpcjnfkhjoaaDoorTie.lean); close each card by the builder's one call (the guide's Derived/Test/ToyasCard.lean, 'card_holds'). Laid BY PROGRAM, IN A SANDBOX (cutbox-door.mjs). By AI agents, Wed Nov 11 2026. No macro, syntax, notation, axiom, sorry.
-/
import Derived.Test.YtidgpcjnfkhjoaaDoorRows
import GoSem.ClaimSeven
namespace Go.Proofs.YtidgpcjnfkhjoaaDoor
namespace Rows

/-- THE TIED CARD OF 'sibyllaw06.LexEach'. -/
def lexEachCard : Claim7 := { stood := { row := lexEachRow, standIns := [], harness := (true, "6339209064b5b9da94bdb68a93a5dffbfec907593a980ee03007b003fc75e227"), looks := true }, kinds := [], alts := [], laidByText := true, laidKinds := [.data, .pinned], laidTests := true, laidLooks := .later }
def LexEachCardSaid : Prop := Claim7.holds Tryd.pinned (.plain (OpenSpec.ofChange lexEachSpec)) lexEachCard

/-- THE TIED CARD OF 'sibyllaw09.PrintNormals'. -/
def printNormalsCard : Claim7 := { stood := { row := printNormalsRow, standIns := [], harness := (true, "6339209064b5b9da94bdb68a93a5dffbfec907593a980ee03007b003fc75e227"), looks := true }, kinds := [], alts := [], laidByText := true, laidKinds := [.data, .data, .data], laidTests := true, laidLooks := .later }
def PrintNormalsCardSaid : Prop := Claim7.holds Tryd.pinned (.plain (OpenSpec.ofChange printNormalsSpec)) printNormalsCard

/-- THE TIED CARD OF 'sibyllaw08.SyntaxParses'. -/
def syntaxParsesCard : Claim7 := { stood := { row := syntaxParsesRow, standIns := [], harness := (true, "6339209064b5b9da94bdb68a93a5dffbfec907593a980ee03007b003fc75e227"), looks := true }, kinds := [], alts := [], laidByText := true, laidKinds := [.data, .pinned], laidTests := true, laidLooks := .later }
def SyntaxParsesCardSaid : Prop := Claim7.holds Tryd.pinned (.plain (OpenSpec.ofChange syntaxParsesSpec)) syntaxParsesCard

/-- THE TIED CARD OF 'sibyllaw08.SyntaxMays'. -/
def syntaxMaysCard : Claim7 := { stood := { row := syntaxMaysRow, standIns := [], harness := (true, "6339209064b5b9da94bdb68a93a5dffbfec907593a980ee03007b003fc75e227"), looks := true }, kinds := [], alts := [], laidByText := true, laidKinds := [.data, .pinned], laidTests := true, laidLooks := .later }
def SyntaxMaysCardSaid : Prop := Claim7.holds Tryd.pinned (.plain (OpenSpec.ofChange syntaxMaysSpec)) syntaxMaysCard

/-- THE TIED CARD OF 'sibyllaw08.SyntaxKnown'. -/
def syntaxKnownCard : Claim7 := { stood := { row := syntaxKnownRow, standIns := [], harness := (true, "6339209064b5b9da94bdb68a93a5dffbfec907593a980ee03007b003fc75e227"), looks := true }, kinds := [], alts := [], laidByText := true, laidKinds := [.data, .pinned], laidTests := true, laidLooks := .later }
def SyntaxKnownCardSaid : Prop := Claim7.holds Tryd.pinned (.plain (OpenSpec.ofChange syntaxKnownSpec)) syntaxKnownCard

/-- THE TIED CARD OF 'sibyllaw08.SyntaxOwn'. -/
def syntaxOwnCard : Claim7 := { stood := { row := syntaxOwnRow, standIns := [], harness := (true, "6339209064b5b9da94bdb68a93a5dffbfec907593a980ee03007b003fc75e227"), looks := true }, kinds := [], alts := [], laidByText := true, laidKinds := [.data, .pinned], laidTests := true, laidLooks := .later }
def SyntaxOwnCardSaid : Prop := Claim7.holds Tryd.pinned (.plain (OpenSpec.ofChange syntaxOwnSpec)) syntaxOwnCard

/-- THE TIED CARD OF 'sibyllaw08.SyntaxAtoms'. -/
def syntaxAtomsCard : Claim7 := { stood := { row := syntaxAtomsRow, standIns := [], harness := (true, "6339209064b5b9da94bdb68a93a5dffbfec907593a980ee03007b003fc75e227"), looks := true }, kinds := [], alts := [], laidByText := true, laidKinds := [.data, .pinned], laidTests := true, laidLooks := .later }
def SyntaxAtomsCardSaid : Prop := Claim7.holds Tryd.pinned (.plain (OpenSpec.ofChange syntaxAtomsSpec)) syntaxAtomsCard

/-- THE TIED CARD OF 'sibyllaw08.SyntaxPlaces'. -/
def syntaxPlacesCard : Claim7 := { stood := { row := syntaxPlacesRow, standIns := [], harness := (true, "6339209064b5b9da94bdb68a93a5dffbfec907593a980ee03007b003fc75e227"), looks := true }, kinds := [], alts := [], laidByText := true, laidKinds := [.data, .pinned], laidTests := true, laidLooks := .later }
def SyntaxPlacesCardSaid : Prop := Claim7.holds Tryd.pinned (.plain (OpenSpec.ofChange syntaxPlacesSpec)) syntaxPlacesCard

/-- THE TIED CARD OF 'sibyllaw09.PrintRenamed'. -/
def printRenamedCard : Claim7 := { stood := { row := printRenamedRow, standIns := [], harness := (true, "6339209064b5b9da94bdb68a93a5dffbfec907593a980ee03007b003fc75e227"), looks := true }, kinds := [], alts := [], laidByText := true, laidKinds := [.data, .data, .data], laidTests := true, laidLooks := .later }
def PrintRenamedCardSaid : Prop := Claim7.holds Tryd.pinned (.plain (OpenSpec.ofChange printRenamedSpec)) printRenamedCard

/-- THE TIED CARD OF 'sibyllaw08.SyntaxReads'. -/
def syntaxReadsCard : Claim7 := { stood := { row := syntaxReadsRow, standIns := [], harness := (true, "6339209064b5b9da94bdb68a93a5dffbfec907593a980ee03007b003fc75e227"), looks := true }, kinds := [], alts := [], laidByText := true, laidKinds := [.data, .pinned], laidTests := true, laidLooks := .later }
def SyntaxReadsCardSaid : Prop := Claim7.holds Tryd.pinned (.plain (OpenSpec.ofChange syntaxReadsSpec)) syntaxReadsCard

/-- THE SECOND FORM's CARD OF 'sibyllaw06.LexEach'. -/
def lexEachUptoCard : Claim7 := { stood := { row := lexEachUptoRow, standIns := [], harness := (true, "6339209064b5b9da94bdb68a93a5dffbfec907593a980ee03007b003fc75e227"), looks := true }, kinds := [], alts := [], laidByText := true, laidKinds := [.data, .pinned], laidTests := true, laidLooks := .later }
def LexEachUptoCardSaid : Prop := Claim7.holds Tryd.pinned (.plain (OpenSpec.upto lexEachSpec)) lexEachUptoCard

/-- THE SECOND FORM's CARD OF 'sibyllaw09.PrintNormals'. -/
def printNormalsUptoCard : Claim7 := { stood := { row := printNormalsUptoRow, standIns := [], harness := (true, "6339209064b5b9da94bdb68a93a5dffbfec907593a980ee03007b003fc75e227"), looks := true }, kinds := [], alts := [], laidByText := true, laidKinds := [.data, .data, .data], laidTests := true, laidLooks := .later }
def PrintNormalsUptoCardSaid : Prop := Claim7.holds Tryd.pinned (.plain (OpenSpec.upto printNormalsSpec)) printNormalsUptoCard

/-- THE SECOND FORM's CARD OF 'sibyllaw08.SyntaxParses'. -/
def syntaxParsesUptoCard : Claim7 := { stood := { row := syntaxParsesUptoRow, standIns := [], harness := (true, "6339209064b5b9da94bdb68a93a5dffbfec907593a980ee03007b003fc75e227"), looks := true }, kinds := [], alts := [], laidByText := true, laidKinds := [.data, .pinned], laidTests := true, laidLooks := .later }
def SyntaxParsesUptoCardSaid : Prop := Claim7.holds Tryd.pinned (.plain (OpenSpec.upto syntaxParsesSpec)) syntaxParsesUptoCard

/-- THE SECOND FORM's CARD OF 'sibyllaw08.SyntaxMays'. -/
def syntaxMaysUptoCard : Claim7 := { stood := { row := syntaxMaysUptoRow, standIns := [], harness := (true, "6339209064b5b9da94bdb68a93a5dffbfec907593a980ee03007b003fc75e227"), looks := true }, kinds := [], alts := [], laidByText := true, laidKinds := [.data, .pinned], laidTests := true, laidLooks := .later }
def SyntaxMaysUptoCardSaid : Prop := Claim7.holds Tryd.pinned (.plain (OpenSpec.upto syntaxMaysSpec)) syntaxMaysUptoCard

/-- THE SECOND FORM's CARD OF 'sibyllaw08.SyntaxKnown'. -/
def syntaxKnownUptoCard : Claim7 := { stood := { row := syntaxKnownUptoRow, standIns := [], harness := (true, "6339209064b5b9da94bdb68a93a5dffbfec907593a980ee03007b003fc75e227"), looks := true }, kinds := [], alts := [], laidByText := true, laidKinds := [.data, .pinned], laidTests := true, laidLooks := .later }
def SyntaxKnownUptoCardSaid : Prop := Claim7.holds Tryd.pinned (.plain (OpenSpec.upto syntaxKnownSpec)) syntaxKnownUptoCard

/-- THE SECOND FORM's CARD OF 'sibyllaw08.SyntaxOwn'. -/
def syntaxOwnUptoCard : Claim7 := { stood := { row := syntaxOwnUptoRow, standIns := [], harness := (true, "6339209064b5b9da94bdb68a93a5dffbfec907593a980ee03007b003fc75e227"), looks := true }, kinds := [], alts := [], laidByText := true, laidKinds := [.data, .pinned], laidTests := true, laidLooks := .later }
def SyntaxOwnUptoCardSaid : Prop := Claim7.holds Tryd.pinned (.plain (OpenSpec.upto syntaxOwnSpec)) syntaxOwnUptoCard

/-- THE SECOND FORM's CARD OF 'sibyllaw08.SyntaxAtoms'. -/
def syntaxAtomsUptoCard : Claim7 := { stood := { row := syntaxAtomsUptoRow, standIns := [], harness := (true, "6339209064b5b9da94bdb68a93a5dffbfec907593a980ee03007b003fc75e227"), looks := true }, kinds := [], alts := [], laidByText := true, laidKinds := [.data, .pinned], laidTests := true, laidLooks := .later }
def SyntaxAtomsUptoCardSaid : Prop := Claim7.holds Tryd.pinned (.plain (OpenSpec.upto syntaxAtomsSpec)) syntaxAtomsUptoCard

/-- THE SECOND FORM's CARD OF 'sibyllaw08.SyntaxPlaces'. -/
def syntaxPlacesUptoCard : Claim7 := { stood := { row := syntaxPlacesUptoRow, standIns := [], harness := (true, "6339209064b5b9da94bdb68a93a5dffbfec907593a980ee03007b003fc75e227"), looks := true }, kinds := [], alts := [], laidByText := true, laidKinds := [.data, .pinned], laidTests := true, laidLooks := .later }
def SyntaxPlacesUptoCardSaid : Prop := Claim7.holds Tryd.pinned (.plain (OpenSpec.upto syntaxPlacesSpec)) syntaxPlacesUptoCard

/-- THE SECOND FORM's CARD OF 'sibyllaw09.PrintRenamed'. -/
def printRenamedUptoCard : Claim7 := { stood := { row := printRenamedUptoRow, standIns := [], harness := (true, "6339209064b5b9da94bdb68a93a5dffbfec907593a980ee03007b003fc75e227"), looks := true }, kinds := [], alts := [], laidByText := true, laidKinds := [.data, .data, .data], laidTests := true, laidLooks := .later }
def PrintRenamedUptoCardSaid : Prop := Claim7.holds Tryd.pinned (.plain (OpenSpec.upto printRenamedSpec)) printRenamedUptoCard

/-- THE SECOND FORM's CARD OF 'sibyllaw08.SyntaxReads'. -/
def syntaxReadsUptoCard : Claim7 := { stood := { row := syntaxReadsUptoRow, standIns := [], harness := (true, "6339209064b5b9da94bdb68a93a5dffbfec907593a980ee03007b003fc75e227"), looks := true }, kinds := [], alts := [], laidByText := true, laidKinds := [.data, .pinned], laidTests := true, laidLooks := .later }
def SyntaxReadsUptoCardSaid : Prop := Claim7.holds Tryd.pinned (.plain (OpenSpec.upto syntaxReadsSpec)) syntaxReadsUptoCard
end Rows
end Go.Proofs.YtidgpcjnfkhjoaaDoor
