/-
  What the cards with utf8's and strconv's tables share.
-/
import Derived.Test.YteecbbnpgmceiaaGreatDoorCardL
import Derived.Test.YteecbbnpgmceiaaGreatDoorNmG
import Derived.Lib.LaidTab
import Derived.LaidSub
namespace Go.Proofs.YteecbbnpgmceiaaGreatDoor
open Go Go.RowKit Go.Mine Go.ChangeShapes Go.WideShapes Go.ChangeAt Go.Shelf
set_option linter.unusedVariables false

def laidB : List (String × DataW Unit) := [("math/bits.deBruijn32tab", Rows.laid_math_bits_deBruijn32tab), ("math/bits.deBruijn64tab", Rows.laid_math_bits_deBruijn64tab), ("internal/strconv.uint64pow10", Rows.laid_internal_strconv_uint64pow10), ("unicode/utf8.acceptRanges", Rows.laid_unicode_utf8_acceptRanges), ("unicode/utf8.first", Rows.laid_unicode_utf8_first)]
theorem pow_eqB : (Rows.laid_internal_strconv_uint64pow10 : DataW Unit) = Lib.tabData .u64 Lib.pow10Tab := by kernel_rfl
theorem tabs_of_laidB {W : World} (h : laidMetH Tryz.prog laidB W) : Lib.Utf8Tabs 1 2 W ∧ Pow W := by
  rw [MakeChecks.laidMetH_plain _ _ _ (by kernel_rfl)] at h
  constructor
  · have h3 := Lib.laidMet.reads h (n := "unicode/utf8.first") (d := Rows.laid_unicode_utf8_first) (.tail _ (.tail _ (.tail _ (.tail _ (.head _)))))
    have h4 := Lib.laidMet.reads h (n := "unicode/utf8.acceptRanges") (d := Rows.laid_unicode_utf8_acceptRanges) (.tail _ (.tail _ (.tail _ (.head _))))
    rw [first_eq] at h3
    rw [accept_eq] at h4
    exact utf8Tabs_of_reads lays260 u8x h3 h4
  · have h2 := laidMet.filter (fun x => x.1 == "internal/strconv.uint64pow10") h
    have e : laidB.filter (fun x => x.1 == "internal/strconv.uint64pow10") = [("internal/strconv.uint64pow10", Lib.tabData .u64 Lib.pow10Tab)] := by
      rw [← pow_eqB]; rfl
    rw [e] at h2
    exact Lib.tabIs_of_head (g := 3) (t := 299) (e := 273) (n := 20) (by kernel_rfl) (by kernel_rfl) (by kernel_rfl) (by kernel_rfl) (by kernel_rfl) (by kernel_rfl) h2
def rowOfB : DataW Unit → Array Value
  | .agg l => (l.map fun d => match d with | .lit (.int k z) => Value.int k z | _ => undef).toArray
  | _ => #[]
def laidHeapB (h : Array Obj) : Array Obj :=
  (((laidHeap h).modify 3 (layCells (rowOfB Rows.laid_internal_strconv_uint64pow10))).modify 4 (layCells (rowOfB Rows.laid_math_bits_deBruijn32tab))).modify 5 (layCells (rowOfB Rows.laid_math_bits_deBruijn64tab))
/-- a world for the witness -/
noncomputable def laidWorldB (os : Os) : World :=
  { World.holding Tryz.prog os ⟨#[], #[], []⟩ with heap := laidHeapB (World.holding Tryz.prog os ⟨#[], #[], []⟩).heap }
theorem laid_metB (os : Os) (args : Array Value) : laidMet Tryz.prog laidB ((laidWorldB os).forCall (fun _ _ => 0) ⟨#[], args, []⟩).memory :=
  laidMet_of_run' 8 (by kernel_rfl) (by kernel_rfl)
end Go.Proofs.YteecbbnpgmceiaaGreatDoor
