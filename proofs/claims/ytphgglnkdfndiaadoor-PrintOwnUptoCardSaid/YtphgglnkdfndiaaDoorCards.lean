/-
  DERIVED. GIVEN WITH THE SEED: THE CARDS: each row of YtphgglnkdfndiaaDoorRows.lean that lists a variable, with what it lists TIED to the program's text (the seventh form; the later family's looks); each row that meets fmt, with fmt's text TOLD by the authors' own Lean function (tested against real Go, not proved from fmt's source: count such statements apart). THE CARD IS WHAT COUNTS. Prove the row's statement (the work); the ties are given (YtphgglnkdfndiaaDoorTie.lean); close each card by the builder's one call (the guide's Derived/Test/ToyasCard.lean, 'card_holds'). Laid BY PROGRAM, IN A SANDBOX (cutbox-door.mjs). By AI agents, Wed Nov 11 2026. No macro, syntax, notation, axiom, sorry.
-/
import Derived.Test.YtphgglnkdfndiaaDoorRows
import GoSem.ClaimSeven
namespace Go.Proofs.YtphgglnkdfndiaaDoor
namespace Rows

/-- THE TIED CARD OF 'sibyllaw09.PrintOwn'. -/
def printOwnCard : Claim7 := { stood := { row := printOwnRow, standIns := [], harness := (true, "f8ff26c39af58fa66c369d29122f1be6b19b3a5e8fc4ce6b2e71b2507a14c3fa"), looks := true }, kinds := [], alts := [], laidByText := true, laidKinds := [.data, .data, .data], laidTests := true, laidLooks := .later }
def PrintOwnCardSaid : Prop := Claim7.holds Tryd.pinned (.plain (OpenSpec.ofChange printOwnSpec)) printOwnCard

/-- THE TIED CARD OF 'sibyllaw09.PrintTidy'. -/
def printTidyCard : Claim7 := { stood := { row := printTidyRow, standIns := [], harness := (true, "f8ff26c39af58fa66c369d29122f1be6b19b3a5e8fc4ce6b2e71b2507a14c3fa"), looks := true }, kinds := [], alts := [], laidByText := true, laidKinds := [.data, .data, .data], laidTests := true, laidLooks := .later }
def PrintTidyCardSaid : Prop := Claim7.holds Tryd.pinned (.plain (OpenSpec.ofChange printTidySpec)) printTidyCard

/-- THE SECOND FORM's CARD OF 'sibyllaw09.PrintOwn'. -/
def printOwnUptoCard : Claim7 := { stood := { row := printOwnUptoRow, standIns := [], harness := (true, "f8ff26c39af58fa66c369d29122f1be6b19b3a5e8fc4ce6b2e71b2507a14c3fa"), looks := true }, kinds := [], alts := [], laidByText := true, laidKinds := [.data, .data, .data], laidTests := true, laidLooks := .later }
def PrintOwnUptoCardSaid : Prop := Claim7.holds Tryd.pinned (.plain (OpenSpec.upto printOwnSpec)) printOwnUptoCard

/-- THE SECOND FORM's CARD OF 'sibyllaw09.PrintTidy'. -/
def printTidyUptoCard : Claim7 := { stood := { row := printTidyUptoRow, standIns := [], harness := (true, "f8ff26c39af58fa66c369d29122f1be6b19b3a5e8fc4ce6b2e71b2507a14c3fa"), looks := true }, kinds := [], alts := [], laidByText := true, laidKinds := [.data, .data, .data], laidTests := true, laidLooks := .later }
def PrintTidyUptoCardSaid : Prop := Claim7.holds Tryd.pinned (.plain (OpenSpec.upto printTidySpec)) printTidyUptoCard
end Rows
end Go.Proofs.YtphgglnkdfndiaaDoor
