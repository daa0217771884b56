/-
  DERIVED. GIVEN WITH THE SEED: THE CARDS: each row of YtgplagdehfhffaaDoorRows.lean that lists a variable, with what it lists TIED to the program's text (the seventh form; the later family's looks); each row that meets fmt, with fmt's text TOLD by the authors' own Lean function (tested against real Go, not proved from fmt's source: count such statements apart). THE CARD IS WHAT COUNTS. Prove the row's statement (the work); the ties are given (YtgplagdehfhffaaDoorTie.lean); close each card by the builder's one call (the guide's Derived/Test/ToyasCard.lean, 'card_holds'). Laid BY PROGRAM, IN A SANDBOX (cutbox-door.mjs). By AI agents, Wed Nov 11 2026. No macro, syntax, notation, axiom, sorry.
-/
import Derived.Test.YtgplagdehfhffaaDoorRows
import GoSem.ClaimSeven
namespace Go.Proofs.YtgplagdehfhffaaDoor
namespace Rows

/-- THE TIED CARD OF 'sibyllaw08.SyntaxParses'. -/
def syntaxParsesCard : Claim7 := { stood := { row := syntaxParsesRow, standIns := [], harness := (true, "78b22f8a15cd52300794e63a63b0a062f0f1f5691d8733d77b005b7a8df684bb"), looks := true }, kinds := [], alts := [], laidByText := true, laidKinds := [.data, .pinned], laidTests := true, laidLooks := .later }
def SyntaxParsesCardSaid : Prop := Claim7.holds Tryd.pinned (.plain (OpenSpec.ofChange syntaxParsesSpec)) syntaxParsesCard

/-- THE TIED CARD OF 'sibyllaw08.SyntaxMays'. -/
def syntaxMaysCard : Claim7 := { stood := { row := syntaxMaysRow, standIns := [], harness := (true, "78b22f8a15cd52300794e63a63b0a062f0f1f5691d8733d77b005b7a8df684bb"), looks := true }, kinds := [], alts := [], laidByText := true, laidKinds := [.data, .pinned], laidTests := true, laidLooks := .later }
def SyntaxMaysCardSaid : Prop := Claim7.holds Tryd.pinned (.plain (OpenSpec.ofChange syntaxMaysSpec)) syntaxMaysCard

/-- THE TIED CARD OF 'sibyllaw08.SyntaxKnown'. -/
def syntaxKnownCard : Claim7 := { stood := { row := syntaxKnownRow, standIns := [], harness := (true, "78b22f8a15cd52300794e63a63b0a062f0f1f5691d8733d77b005b7a8df684bb"), looks := true }, kinds := [], alts := [], laidByText := true, laidKinds := [.data, .pinned], laidTests := true, laidLooks := .later }
def SyntaxKnownCardSaid : Prop := Claim7.holds Tryd.pinned (.plain (OpenSpec.ofChange syntaxKnownSpec)) syntaxKnownCard

/-- THE TIED CARD OF 'sibyllaw08.SyntaxOwn'. -/
def syntaxOwnCard : Claim7 := { stood := { row := syntaxOwnRow, standIns := [], harness := (true, "78b22f8a15cd52300794e63a63b0a062f0f1f5691d8733d77b005b7a8df684bb"), looks := true }, kinds := [], alts := [], laidByText := true, laidKinds := [.data, .pinned], laidTests := true, laidLooks := .later }
def SyntaxOwnCardSaid : Prop := Claim7.holds Tryd.pinned (.plain (OpenSpec.ofChange syntaxOwnSpec)) syntaxOwnCard

/-- THE TIED CARD OF 'sibyllaw08.SyntaxAtoms'. -/
def syntaxAtomsCard : Claim7 := { stood := { row := syntaxAtomsRow, standIns := [], harness := (true, "78b22f8a15cd52300794e63a63b0a062f0f1f5691d8733d77b005b7a8df684bb"), looks := true }, kinds := [], alts := [], laidByText := true, laidKinds := [.data, .pinned], laidTests := true, laidLooks := .later }
def SyntaxAtomsCardSaid : Prop := Claim7.holds Tryd.pinned (.plain (OpenSpec.ofChange syntaxAtomsSpec)) syntaxAtomsCard

/-- THE TIED CARD OF 'sibyllaw08.SyntaxPlaces'. -/
def syntaxPlacesCard : Claim7 := { stood := { row := syntaxPlacesRow, standIns := [], harness := (true, "78b22f8a15cd52300794e63a63b0a062f0f1f5691d8733d77b005b7a8df684bb"), looks := true }, kinds := [], alts := [], laidByText := true, laidKinds := [.data, .pinned], laidTests := true, laidLooks := .later }
def SyntaxPlacesCardSaid : Prop := Claim7.holds Tryd.pinned (.plain (OpenSpec.ofChange syntaxPlacesSpec)) syntaxPlacesCard

/-- THE TIED CARD OF 'sibyllaw09.PrintRenamed'. -/
def printRenamedCard : Claim7 := { stood := { row := printRenamedRow, standIns := [], harness := (true, "78b22f8a15cd52300794e63a63b0a062f0f1f5691d8733d77b005b7a8df684bb"), looks := true }, kinds := [], alts := [], laidByText := true, laidKinds := [.data, .data, .data], laidTests := true, laidLooks := .later }
def PrintRenamedCardSaid : Prop := Claim7.holds Tryd.pinned (.plain (OpenSpec.ofChange printRenamedSpec)) printRenamedCard

/-- THE TIED CARD OF 'sibyllaw08.SyntaxReads'. -/
def syntaxReadsCard : Claim7 := { stood := { row := syntaxReadsRow, standIns := [], harness := (true, "78b22f8a15cd52300794e63a63b0a062f0f1f5691d8733d77b005b7a8df684bb"), looks := true }, kinds := [], alts := [], laidByText := true, laidKinds := [.data, .pinned], laidTests := true, laidLooks := .later }
def SyntaxReadsCardSaid : Prop := Claim7.holds Tryd.pinned (.plain (OpenSpec.ofChange syntaxReadsSpec)) syntaxReadsCard

/-- THE SECOND FORM's CARD OF 'sibyllaw08.SyntaxParses'. -/
def syntaxParsesUptoCard : Claim7 := { stood := { row := syntaxParsesUptoRow, standIns := [], harness := (true, "78b22f8a15cd52300794e63a63b0a062f0f1f5691d8733d77b005b7a8df684bb"), looks := true }, kinds := [], alts := [], laidByText := true, laidKinds := [.data, .pinned], laidTests := true, laidLooks := .later }
def SyntaxParsesUptoCardSaid : Prop := Claim7.holds Tryd.pinned (.plain (OpenSpec.upto syntaxParsesSpec)) syntaxParsesUptoCard

/-- THE SECOND FORM's CARD OF 'sibyllaw08.SyntaxMays'. -/
def syntaxMaysUptoCard : Claim7 := { stood := { row := syntaxMaysUptoRow, standIns := [], harness := (true, "78b22f8a15cd52300794e63a63b0a062f0f1f5691d8733d77b005b7a8df684bb"), looks := true }, kinds := [], alts := [], laidByText := true, laidKinds := [.data, .pinned], laidTests := true, laidLooks := .later }
def SyntaxMaysUptoCardSaid : Prop := Claim7.holds Tryd.pinned (.plain (OpenSpec.upto syntaxMaysSpec)) syntaxMaysUptoCard

/-- THE SECOND FORM's CARD OF 'sibyllaw08.SyntaxKnown'. -/
def syntaxKnownUptoCard : Claim7 := { stood := { row := syntaxKnownUptoRow, standIns := [], harness := (true, "78b22f8a15cd52300794e63a63b0a062f0f1f5691d8733d77b005b7a8df684bb"), looks := true }, kinds := [], alts := [], laidByText := true, laidKinds := [.data, .pinned], laidTests := true, laidLooks := .later }
def SyntaxKnownUptoCardSaid : Prop := Claim7.holds Tryd.pinned (.plain (OpenSpec.upto syntaxKnownSpec)) syntaxKnownUptoCard

/-- THE SECOND FORM's CARD OF 'sibyllaw08.SyntaxOwn'. -/
def syntaxOwnUptoCard : Claim7 := { stood := { row := syntaxOwnUptoRow, standIns := [], harness := (true, "78b22f8a15cd52300794e63a63b0a062f0f1f5691d8733d77b005b7a8df684bb"), looks := true }, kinds := [], alts := [], laidByText := true, laidKinds := [.data, .pinned], laidTests := true, laidLooks := .later }
def SyntaxOwnUptoCardSaid : Prop := Claim7.holds Tryd.pinned (.plain (OpenSpec.upto syntaxOwnSpec)) syntaxOwnUptoCard

/-- THE SECOND FORM's CARD OF 'sibyllaw08.SyntaxAtoms'. -/
def syntaxAtomsUptoCard : Claim7 := { stood := { row := syntaxAtomsUptoRow, standIns := [], harness := (true, "78b22f8a15cd52300794e63a63b0a062f0f1f5691d8733d77b005b7a8df684bb"), looks := true }, kinds := [], alts := [], laidByText := true, laidKinds := [.data, .pinned], laidTests := true, laidLooks := .later }
def SyntaxAtomsUptoCardSaid : Prop := Claim7.holds Tryd.pinned (.plain (OpenSpec.upto syntaxAtomsSpec)) syntaxAtomsUptoCard

/-- THE SECOND FORM's CARD OF 'sibyllaw08.SyntaxPlaces'. -/
def syntaxPlacesUptoCard : Claim7 := { stood := { row := syntaxPlacesUptoRow, standIns := [], harness := (true, "78b22f8a15cd52300794e63a63b0a062f0f1f5691d8733d77b005b7a8df684bb"), looks := true }, kinds := [], alts := [], laidByText := true, laidKinds := [.data, .pinned], laidTests := true, laidLooks := .later }
def SyntaxPlacesUptoCardSaid : Prop := Claim7.holds Tryd.pinned (.plain (OpenSpec.upto syntaxPlacesSpec)) syntaxPlacesUptoCard

/-- THE SECOND FORM's CARD OF 'sibyllaw09.PrintRenamed'. -/
def printRenamedUptoCard : Claim7 := { stood := { row := printRenamedUptoRow, standIns := [], harness := (true, "78b22f8a15cd52300794e63a63b0a062f0f1f5691d8733d77b005b7a8df684bb"), looks := true }, kinds := [], alts := [], laidByText := true, laidKinds := [.data, .data, .data], laidTests := true, laidLooks := .later }
def PrintRenamedUptoCardSaid : Prop := Claim7.holds Tryd.pinned (.plain (OpenSpec.upto printRenamedSpec)) printRenamedUptoCard

/-- THE SECOND FORM's CARD OF 'sibyllaw08.SyntaxReads'. -/
def syntaxReadsUptoCard : Claim7 := { stood := { row := syntaxReadsUptoRow, standIns := [], harness := (true, "78b22f8a15cd52300794e63a63b0a062f0f1f5691d8733d77b005b7a8df684bb"), looks := true }, kinds := [], alts := [], laidByText := true, laidKinds := [.data, .pinned], laidTests := true, laidLooks := .later }
def SyntaxReadsUptoCardSaid : Prop := Claim7.holds Tryd.pinned (.plain (OpenSpec.upto syntaxReadsSpec)) syntaxReadsUptoCard
end Rows
end Go.Proofs.YtgplagdehfhffaaDoor
