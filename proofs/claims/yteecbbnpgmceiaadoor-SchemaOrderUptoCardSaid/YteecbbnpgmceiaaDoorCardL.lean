/-
  What the cards of lex share: the tables of utf8 out of the row's list; a world that holds them.
-/
import Derived.Test.YteecbbnpgmceiaaDoorCards
import Derived.Test.YteecbbnpgmceiaaDoorTie
import Derived.Test.YteecbbnpgmceiaaDoorLexG
import Derived.Test.YteecbbnpgmceiaaDoorClG
import Derived.Deep.DeepHandedRow
import Derived.Lib.LaidU8
import Derived.MakeChecks
namespace Go.Proofs.YteecbbnpgmceiaaDoor
open Go Go.RowKit Go.Mine Go.ChangeShapes Go.WideShapes Go.ChangeAt Go.Shelf
set_option linter.unusedVariables false

theorem lays260 : Lays.n260 Tryd.prog lays197_ren :=
  have L := lays197
  { mixed := L.mixed, f260 := L.f260, t0 := L.t0, a0 := L.a0, z0 := L.z0, v0 := L.v0, t3 := L.t3, a3 := L.a3, z3 := L.z3, v3 := L.v3, t4 := L.t4, a4 := L.a4, z4 := L.z4, v4 := L.v4, t5 := L.t5, a5 := L.a5, z5 := L.z5, v5 := L.v5, t9 := L.t9, a9 := L.a9, z9 := L.z9, v9 := L.v9, t21 := L.t21, a21 := L.a21, z21 := L.z21, v21 := L.v21, t46 := L.t46, a46 := L.a46, z46 := L.z46, v46 := L.v46, t119 := L.t119, a119 := L.a119, z119 := L.z119, t138 := L.t138, a138 := L.a138, z138 := L.z138, v138 := L.v138, t139 := L.t139, a139 := L.a139, z139 := L.z139, v139 := L.v139, g3 := L.g3, g4 := L.g4 }
theorem u8x : U8Extra Tryd.prog lays197_ren where
  n3 := by kernel_rfl
  n4 := by kernel_rfl
  y3 := by kernel_rfl
  y4 := by kernel_rfl
  c5 := by kernel_rfl
  c119 := by kernel_rfl
  c138 := by kernel_rfl
/-- what the rows of this seat list -/
def laidL : List (String × DataW Unit) := [("unicode/utf8.acceptRanges", Rows.laid_unicode_utf8_acceptRanges), ("unicode/utf8.first", Rows.laid_unicode_utf8_first)]
theorem first_eq : Rows.laid_unicode_utf8_first = Lib.firstData := by kernel_rfl
theorem accept_eq : (Rows.laid_unicode_utf8_acceptRanges : DataW Unit) = Lib.acceptData := by kernel_rfl
theorem tabs_of_laid {W : World} (h : laidMetH Tryd.prog laidL W) : Lib.Utf8Tabs 1 2 W := by
  rw [MakeChecks.laidMetH_plain _ _ _ (by kernel_rfl)] at h
  have h3 := Lib.laidMet.reads h (n := "unicode/utf8.first") (d := Rows.laid_unicode_utf8_first) (.tail _ (.head _))
  have h4 := Lib.laidMet.reads h (n := "unicode/utf8.acceptRanges") (d := Rows.laid_unicode_utf8_acceptRanges) (.head _)
  rw [first_eq] at h3
  rw [accept_eq] at h4
  exact utf8Tabs_of_reads lays260 u8x h3 h4
def layCells (cs : Array Value) : Obj → Obj
  | .cells _ t frozen => .cells cs t frozen
  | o => o
def laidHeap (h : Array Obj) : Array Obj :=
  (h.modify 1 (layCells (Lib.firstTab.map fun z => Value.int .u8 z).toArray)).modify 2 (layCells ((List.range 16).flatMap fun i => [Value.int .u8 (Lib.accLo i), Value.int .u8 (Lib.accHi i)]).toArray)
/-- a world for the witness -/
noncomputable def laidWorld (os : Os) : World :=
  { World.holding Tryd.prog os ⟨#[], #[], []⟩ with heap := laidHeap (World.holding Tryd.prog os ⟨#[], #[], []⟩).heap }
theorem laid_met (os : Os) (args : Array Value) : laidMet Tryd.prog laidL ((laidWorld os).forCall (fun _ _ => 0) ⟨#[], args, []⟩).memory :=
  laidMet_of_run' 8 (by kernel_rfl) (by kernel_rfl)
end Go.Proofs.YteecbbnpgmceiaaDoor
