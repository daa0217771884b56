/-
  What the cards with strconv's tables share: the table of powers out of the row's list; a world that holds the tables.
-/
import Derived.Test.YtphgglnkdfndiaaDoorCards
import Derived.Test.YtphgglnkdfndiaaDoorTie
import Derived.Test.YtphgglnkdfndiaaDoorNmG
import Derived.Test.YtphgglnkdfndiaaDoorClG
import Derived.Deep.DeepHandedRow
import Derived.Lib.LaidTab
import Derived.LaidSub
import Derived.MakeChecks
namespace Go.Proofs.YtphgglnkdfndiaaDoor
open Go Go.RowKit Go.Mine Go.ChangeShapes Go.WideShapes Go.ChangeAt Go.Shelf
set_option linter.unusedVariables false

def laidD : List (String × DataW Unit) := [("math/bits.deBruijn32tab", Rows.laid_math_bits_deBruijn32tab), ("math/bits.deBruijn64tab", Rows.laid_math_bits_deBruijn64tab), ("internal/strconv.uint64pow10", Rows.laid_internal_strconv_uint64pow10)]
theorem pow_eq : (Rows.laid_internal_strconv_uint64pow10 : DataW Unit) = Lib.tabData .u64 Lib.pow10Tab := by kernel_rfl
theorem tabs_of_laid {W : World} (h : laidMetH Tryd.prog laidD W) : Pow W := by
  rw [MakeChecks.laidMetH_plain _ _ _ (by kernel_rfl)] at h
  have h2 := laidMet.filter (fun x => x.1 == "internal/strconv.uint64pow10") h
  have e : laidD.filter (fun x => x.1 == "internal/strconv.uint64pow10") = [("internal/strconv.uint64pow10", Lib.tabData .u64 Lib.pow10Tab)] := by
    rw [← pow_eq]; rfl
  rw [e] at h2
  exact Lib.tabIs_of_head (g := 0) (t := 150) (e := 138) (n := 20) (by kernel_rfl) (by kernel_rfl) (by kernel_rfl) (by kernel_rfl) (by kernel_rfl) (by kernel_rfl) h2
def layCells (cs : Array Value) : Obj → Obj
  | .cells _ t frozen => .cells cs t frozen
  | o => o
def rowOf : DataW Unit → Array Value
  | .agg l => (l.map fun d => match d with | .lit (.int k z) => Value.int k z | _ => undef).toArray
  | _ => #[]
def laidHeap (h : Array Obj) : Array Obj :=
  ((h.modify 0 (layCells (rowOf Rows.laid_internal_strconv_uint64pow10))).modify 1 (layCells (rowOf Rows.laid_math_bits_deBruijn32tab))).modify 2 (layCells (rowOf Rows.laid_math_bits_deBruijn64tab))
/-- a world for the witness -/
noncomputable def laidWorld (os : Os) : World :=
  { World.holding Tryd.prog os ⟨#[], #[], []⟩ with heap := laidHeap (World.holding Tryd.prog os ⟨#[], #[], []⟩).heap }
theorem laid_met (os : Os) (args : Array Value) : laidMet Tryd.prog laidD ((laidWorld os).forCall (fun _ _ => 0) ⟨#[], args, []⟩).memory :=
  laidMet_of_run' 8 (by kernel_rfl) (by kernel_rfl)
end Go.Proofs.YtphgglnkdfndiaaDoor
