/-
  DERIVED. GIVEN WITH THE SEED: THE CARDS: each row of YteecbbnpgmceiaaDoorRows.lean that lists a variable, with what it lists TIED to the program's text (the seventh form; the later family's looks); each row that meets fmt, with fmt's text TOLD by the authors' own Lean function (tested against real Go, not proved from fmt's source: count such statements apart). THE CARD IS WHAT COUNTS. Prove the row's statement (the work); the ties are given (YteecbbnpgmceiaaDoorTie.lean); close each card by the builder's one call (the guide's Derived/Test/ToyasCard.lean, 'card_holds'). Laid BY PROGRAM, IN A SANDBOX (cutbox-door.mjs). By AI agents, Wed Nov 11 2026. No macro, syntax, notation, axiom, sorry.
-/
import Derived.Test.YteecbbnpgmceiaaDoorRows
import GoSem.ClaimSeven
namespace Go.Proofs.YteecbbnpgmceiaaDoor
namespace Rows

/-- THE TIED CARD OF 'sibyllaw08.SyntaxOwn'. -/
def syntaxOwnCard : Claim7 := { stood := { row := syntaxOwnRow, standIns := [], harness := (true, "2bf92084da755b323e98f0e958dfe8f4ccceac383d6193297a116cb268ab9be3"), looks := true }, kinds := [], alts := [], laidByText := true, laidKinds := [.data, .pinned], laidTests := true, laidLooks := .later }
def SyntaxOwnCardSaid : Prop := Claim7.holds Tryd.pinned (.plain (OpenSpec.ofChange syntaxOwnSpec)) syntaxOwnCard

/-- THE TIED CARD OF 'sibyllaw11.SchemaChecks'. -/
def schemaChecksCard : Claim7 := { stood := { row := schemaChecksRow, standIns := [], harness := (true, "2bf92084da755b323e98f0e958dfe8f4ccceac383d6193297a116cb268ab9be3"), looks := true }, kinds := [], alts := [], laidByText := true, laidKinds := [.data, .pinned], laidTests := true, laidLooks := .later }
def SchemaChecksCardSaid : Prop := Claim7.holds Tryd.pinned (.plain (OpenSpec.ofChange schemaChecksSpec)) schemaChecksCard

/-- THE TIED CARD OF 'sibyllaw09.PrintOwn'. -/
def printOwnCard : Claim7 := { stood := { row := printOwnRow, standIns := [], harness := (true, "2bf92084da755b323e98f0e958dfe8f4ccceac383d6193297a116cb268ab9be3"), looks := true }, kinds := [], alts := [], laidByText := true, laidKinds := [.data, .data, .data], laidTests := true, laidLooks := .later }
def PrintOwnCardSaid : Prop := Claim7.holds Tryd.pinned (.plain (OpenSpec.ofChange printOwnSpec)) printOwnCard

/-- THE TIED CARD OF 'sibyllaw09.PrintTidy'. -/
def printTidyCard : Claim7 := { stood := { row := printTidyRow, standIns := [], harness := (true, "2bf92084da755b323e98f0e958dfe8f4ccceac383d6193297a116cb268ab9be3"), looks := true }, kinds := [], alts := [], laidByText := true, laidKinds := [.data, .data, .data], laidTests := true, laidLooks := .later }
def PrintTidyCardSaid : Prop := Claim7.holds Tryd.pinned (.plain (OpenSpec.ofChange printTidySpec)) printTidyCard

/-- THE TIED CARD OF 'sibyllaw11.SchemaOrder'. -/
def schemaOrderCard : Claim7 := { stood := { row := schemaOrderRow, standIns := [], harness := (true, "2bf92084da755b323e98f0e958dfe8f4ccceac383d6193297a116cb268ab9be3"), looks := true }, kinds := [], alts := [], laidByText := true, laidKinds := [.data, .pinned], laidTests := true, laidLooks := .later }
def SchemaOrderCardSaid : Prop := Claim7.holds Tryd.pinned (.plain (OpenSpec.ofChange schemaOrderSpec)) schemaOrderCard

/-- THE SECOND FORM's CARD OF 'sibyllaw08.SyntaxOwn'. -/
def syntaxOwnUptoCard : Claim7 := { stood := { row := syntaxOwnUptoRow, standIns := [], harness := (true, "2bf92084da755b323e98f0e958dfe8f4ccceac383d6193297a116cb268ab9be3"), looks := true }, kinds := [], alts := [], laidByText := true, laidKinds := [.data, .pinned], laidTests := true, laidLooks := .later }
def SyntaxOwnUptoCardSaid : Prop := Claim7.holds Tryd.pinned (.plain (OpenSpec.upto syntaxOwnSpec)) syntaxOwnUptoCard

/-- THE SECOND FORM's CARD OF 'sibyllaw11.SchemaChecks'. -/
def schemaChecksUptoCard : Claim7 := { stood := { row := schemaChecksUptoRow, standIns := [], harness := (true, "2bf92084da755b323e98f0e958dfe8f4ccceac383d6193297a116cb268ab9be3"), looks := true }, kinds := [], alts := [], laidByText := true, laidKinds := [.data, .pinned], laidTests := true, laidLooks := .later }
def SchemaChecksUptoCardSaid : Prop := Claim7.holds Tryd.pinned (.plain (OpenSpec.upto schemaChecksSpec)) schemaChecksUptoCard

/-- THE SECOND FORM's CARD OF 'sibyllaw09.PrintOwn'. -/
def printOwnUptoCard : Claim7 := { stood := { row := printOwnUptoRow, standIns := [], harness := (true, "2bf92084da755b323e98f0e958dfe8f4ccceac383d6193297a116cb268ab9be3"), looks := true }, kinds := [], alts := [], laidByText := true, laidKinds := [.data, .data, .data], laidTests := true, laidLooks := .later }
def PrintOwnUptoCardSaid : Prop := Claim7.holds Tryd.pinned (.plain (OpenSpec.upto printOwnSpec)) printOwnUptoCard

/-- THE SECOND FORM's CARD OF 'sibyllaw09.PrintTidy'. -/
def printTidyUptoCard : Claim7 := { stood := { row := printTidyUptoRow, standIns := [], harness := (true, "2bf92084da755b323e98f0e958dfe8f4ccceac383d6193297a116cb268ab9be3"), looks := true }, kinds := [], alts := [], laidByText := true, laidKinds := [.data, .data, .data], laidTests := true, laidLooks := .later }
def PrintTidyUptoCardSaid : Prop := Claim7.holds Tryd.pinned (.plain (OpenSpec.upto printTidySpec)) printTidyUptoCard

/-- THE SECOND FORM's CARD OF 'sibyllaw11.SchemaOrder'. -/
def schemaOrderUptoCard : Claim7 := { stood := { row := schemaOrderUptoRow, standIns := [], harness := (true, "2bf92084da755b323e98f0e958dfe8f4ccceac383d6193297a116cb268ab9be3"), looks := true }, kinds := [], alts := [], laidByText := true, laidKinds := [.data, .pinned], laidTests := true, laidLooks := .later }
def SchemaOrderUptoCardSaid : Prop := Claim7.holds Tryd.pinned (.plain (OpenSpec.upto schemaOrderSpec)) schemaOrderUptoCard
end Rows
end Go.Proofs.YteecbbnpgmceiaaDoor
