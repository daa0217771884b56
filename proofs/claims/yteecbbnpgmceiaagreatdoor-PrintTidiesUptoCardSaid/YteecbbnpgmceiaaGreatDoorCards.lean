/-
  DERIVED. GIVEN WITH THE SEED: THE CARDS: each row of YteecbbnpgmceiaaGreatDoorRows.lean that lists a variable, with what it lists TIED to the program's text (the seventh form; the later family's looks); each row that meets fmt, with fmt's text TOLD by the authors' own Lean function (tested against real Go, not proved from fmt's source: count such statements apart). THE CARD IS WHAT COUNTS. Prove the row's statement (the work); the ties are given (YteecbbnpgmceiaaGreatDoorTie.lean); close each card by the builder's one call (the guide's Derived/Test/ToyasCard.lean, 'card_holds'). Laid BY PROGRAM, IN A SANDBOX (cutbox-door.mjs). By AI agents, Wed Nov 11 2026. No macro, syntax, notation, axiom, sorry.
-/
import Derived.Test.YteecbbnpgmceiaaGreatDoorRows
import GoSem.ClaimSeven
namespace Go.Proofs.YteecbbnpgmceiaaGreatDoor
namespace Rows

/-- THE TIED CARD OF 'sibyllaw09.PrintTidies'. -/
def printTidiesCard : Claim7 := { stood := { row := printTidiesRow, standIns := [], harness := (true, "1b00ac7094f8ba7c8072d3e0a690e06d14114ecd585d293a10f5c4a8b70c7b63"), looks := true }, kinds := [], alts := [], laidByText := true, laidKinds := [.data, .data, .data], laidTests := true, laidLooks := .later }
def PrintTidiesCardSaid : Prop := Claim7.holds Tryz.pinned (.plain (OpenSpec.ofChange printTidiesSpec)) printTidiesCard

/-- THE TIED CARD OF 'sibyllaw09.PrintBack'. -/
def printBackCard : Claim7 := { stood := { row := printBackRow, standIns := [], harness := (true, "1b00ac7094f8ba7c8072d3e0a690e06d14114ecd585d293a10f5c4a8b70c7b63"), looks := true }, kinds := [], alts := [], laidByText := true, laidKinds := [.data, .data, .data, .data, .pinned], laidTests := true, laidLooks := .later }
def PrintBackCardSaid : Prop := Claim7.holds Tryz.pinned (.plain (OpenSpec.ofChange printBackSpec)) printBackCard

/-- THE TIED CARD OF 'sibyllaw11.SchemaArities'. -/
def schemaAritiesCard : Claim7 := { stood := { row := schemaAritiesRow, standIns := [], harness := (true, "1b00ac7094f8ba7c8072d3e0a690e06d14114ecd585d293a10f5c4a8b70c7b63"), looks := true }, kinds := [], alts := [], laidByText := true, laidKinds := [.data, .pinned], laidTests := true, laidLooks := .later }
def SchemaAritiesCardSaid : Prop := Claim7.holds Tryz.pinned (.plain (OpenSpec.ofChange schemaAritiesSpec)) schemaAritiesCard

/-- THE TIED CARD OF 'sibyllaw11.SchemaKnown'. -/
def schemaKnownCard : Claim7 := { stood := { row := schemaKnownRow, standIns := [], harness := (true, "1b00ac7094f8ba7c8072d3e0a690e06d14114ecd585d293a10f5c4a8b70c7b63"), looks := true }, kinds := [], alts := [], laidByText := true, laidKinds := [.data, .pinned], laidTests := true, laidLooks := .later }
def SchemaKnownCardSaid : Prop := Claim7.holds Tryz.pinned (.plain (OpenSpec.ofChange schemaKnownSpec)) schemaKnownCard

/-- THE SECOND FORM's CARD OF 'sibyllaw09.PrintTidies'. -/
def printTidiesUptoCard : Claim7 := { stood := { row := printTidiesUptoRow, standIns := [], harness := (true, "1b00ac7094f8ba7c8072d3e0a690e06d14114ecd585d293a10f5c4a8b70c7b63"), looks := true }, kinds := [], alts := [], laidByText := true, laidKinds := [.data, .data, .data], laidTests := true, laidLooks := .later }
def PrintTidiesUptoCardSaid : Prop := Claim7.holds Tryz.pinned (.plain (OpenSpec.upto printTidiesSpec)) printTidiesUptoCard

/-- THE SECOND FORM's CARD OF 'sibyllaw09.PrintBack'. -/
def printBackUptoCard : Claim7 := { stood := { row := printBackUptoRow, standIns := [], harness := (true, "1b00ac7094f8ba7c8072d3e0a690e06d14114ecd585d293a10f5c4a8b70c7b63"), looks := true }, kinds := [], alts := [], laidByText := true, laidKinds := [.data, .data, .data, .data, .pinned], laidTests := true, laidLooks := .later }
def PrintBackUptoCardSaid : Prop := Claim7.holds Tryz.pinned (.plain (OpenSpec.upto printBackSpec)) printBackUptoCard

/-- THE SECOND FORM's CARD OF 'sibyllaw11.SchemaArities'. -/
def schemaAritiesUptoCard : Claim7 := { stood := { row := schemaAritiesUptoRow, standIns := [], harness := (true, "1b00ac7094f8ba7c8072d3e0a690e06d14114ecd585d293a10f5c4a8b70c7b63"), looks := true }, kinds := [], alts := [], laidByText := true, laidKinds := [.data, .pinned], laidTests := true, laidLooks := .later }
def SchemaAritiesUptoCardSaid : Prop := Claim7.holds Tryz.pinned (.plain (OpenSpec.upto schemaAritiesSpec)) schemaAritiesUptoCard

/-- THE SECOND FORM's CARD OF 'sibyllaw11.SchemaKnown'. -/
def schemaKnownUptoCard : Claim7 := { stood := { row := schemaKnownUptoRow, standIns := [], harness := (true, "1b00ac7094f8ba7c8072d3e0a690e06d14114ecd585d293a10f5c4a8b70c7b63"), looks := true }, kinds := [], alts := [], laidByText := true, laidKinds := [.data, .pinned], laidTests := true, laidLooks := .later }
def SchemaKnownUptoCardSaid : Prop := Claim7.holds Tryz.pinned (.plain (OpenSpec.upto schemaKnownSpec)) schemaKnownUptoCard
end Rows
end Go.Proofs.YteecbbnpgmceiaaGreatDoor
