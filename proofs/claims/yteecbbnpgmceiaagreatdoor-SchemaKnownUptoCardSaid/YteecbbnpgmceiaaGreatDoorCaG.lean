/-
  What the cards of lex share: the tables of utf8 out of the row's list; a world that holds them.
-/
import Derived.Test.YteecbbnpgmceiaaGreatDoorCards
import Derived.Test.YteecbbnpgmceiaaGreatDoorTie
import Derived.Test.YteecbbnpgmceiaaGreatDoorLexG
import Derived.Test.YteecbbnpgmceiaaGreatDoorClG
import Derived.Deep.DeepHandedRow
import Derived.Lib.LaidU8
import Derived.MakeChecks
namespace Go.Proofs.YteecbbnpgmceiaaGreatDoor
open Go Go.RowKit Go.Mine Go.ChangeShapes Go.WideShapes Go.ChangeAt Go.Shelf
set_option linter.unusedVariables false

theorem lays260 : Lays.n260 Tryz.prog lays197_ren :=
  have L := lays197
  { mixed := L.mixed, f260 := L.f260, t0 := L.t0, a0 := L.a0, z0 := L.z0, v0 := L.v0, t3 := L.t3, a3 := L.a3, z3 := L.z3, v3 := L.v3, t4 := L.t4, a4 := L.a4, z4 := L.z4, v4 := L.v4, t5 := L.t5, a5 := L.a5, z5 := L.z5, v5 := L.v5, t9 := L.t9, a9 := L.a9, z9 := L.z9, v9 := L.v9, t21 := L.t21, a21 := L.a21, z21 := L.z21, v21 := L.v21, t46 := L.t46, a46 := L.a46, z46 := L.z46, v46 := L.v46, t119 := L.t119, a119 := L.a119, z119 := L.z119, t138 := L.t138, a138 := L.a138, z138 := L.z138, v138 := L.v138, t139 := L.t139, a139 := L.a139, z139 := L.z139, v139 := L.v139, g3 := L.g3, g4 := L.g4 }
theorem u8x : U8Extra Tryz.prog lays197_ren where
  n3 := by kernel_rfl
  n4 := by kernel_rfl
  y3 := by kernel_rfl
  y4 := by kernel_rfl
  c5 := by kernel_rfl
  c119 := by kernel_rfl
  c138 := by kernel_rfl
/-- what the rows of this seat list -/
def laidL : List (String × DataW Unit) := [("unicode/utf8.acceptRanges", Rows.laid_unicode_utf8_acceptRanges), ("unicode/utf8.first", Rows.laid_unicode_utf8_first)]
theorem first_eq : Rows.laid_unicode_utf8_first = Lib.firstData := by kernel_rfl
theorem accept_eq : (Rows.laid_unicode_utf8_acceptRanges : DataW Unit) = Lib.acceptData := by kernel_rfl
theorem tabs_of_laid {W : World} (h : laidMetH Tryz.prog laidL W) : Lib.Utf8Tabs 1 2 W := by
  rw [MakeChecks.laidMetH_plain _ _ _ (by kernel_rfl)] at h
  have h3 := Lib.laidMet.reads h (n := "unicode/utf8.first") (d := Rows.laid_unicode_utf8_first) (.tail _ (.head _))
  have h4 := Lib.laidMet.reads h (n := "unicode/utf8.acceptRanges") (d := Rows.laid_unicode_utf8_acceptRanges) (.head _)
  rw [first_eq] at h3
  rw [accept_eq] at h4
  exact utf8Tabs_of_reads lays260 u8x h3 h4
def layCells (cs : Array Value) : Obj → Obj
  | .cells _ t frozen => .cells cs t frozen
  | o => o
def laidHeap (h : Array Obj) : Array Obj :=
  (h.modify 1 (layCells (Lib.firstTab.map fun z => Value.int .u8 z).toArray)).modify 2 (layCells ((List.range 16).flatMap fun i => [Value.int .u8 (Lib.accLo i), Value.int .u8 (Lib.accHi i)]).toArray)
/-- a world for the witness -/
noncomputable def laidWorld (os : Os) : World :=
  { World.holding Tryz.prog os ⟨#[], #[], []⟩ with heap := laidHeap (World.holding Tryz.prog os ⟨#[], #[], []⟩).heap }
theorem laid_met (os : Os) (args : Array Value) : laidMet Tryz.prog laidL ((laidWorld os).forCall (fun _ _ => 0) ⟨#[], args, []⟩).memory :=
  laidMet_of_run' 8 (by kernel_rfl) (by kernel_rfl)
end Go.Proofs.YteecbbnpgmceiaaGreatDoor
/- How a row's arguments are opened: bytes, an int. -/
namespace Go.Proofs.YteecbbnpgmceiaaGreatDoor
open Go Go.RowKit Go.Mine Go.ChangeShapes Go.WideShapes Go.ChangeAt
set_option linter.unusedVariables false
set_option maxRecDepth 100000

theorem arg_bytes {H : Type} {enc : TypeId × Value → H} {W : World} {a0 : Option Addr} {len cap : Nat} {d : DataW H} {p : List MemPlace} (h : DataW.Trod enc Tryz.prog W 0 (fun _ => true) true 34 (.slice a0 len cap) d p) :
    ∃ l : List UInt8, l.length = len ∧ Rd W a0 (bts l) ∧ l.length ≤ Rows.uptoBulk d := by
  obtain ⟨fuel, hf⟩ := h
  rcases open_ints Tryz.underlying34 Tryz.underlying5 (by kernel_rfl) hf with ⟨hcs, hx⟩ | ⟨a, len', cap', zs, hcs, _, hl, hm, hz, hx, hcell, hws⟩
  · simp [Value.cells] at hcs
    obtain ⟨rfl, rfl, rfl⟩ := hcs
    exact ⟨[], rfl, Rd.nil _ _, Nat.zero_le _⟩
  · simp [Value.cells] at hcs
    obtain ⟨rfl, rfl, rfl⟩ := hcs
    simp only [Prod.mk.injEq] at hx
    obtain ⟨rfl, _⟩ := hx
    simp only [if_true] at hz
    have b1 := bulk_ints (H := H) .u8 (zs.take len)
    have hlen : (zs.take len).length = len := by rw [List.length_take, hz]; omega
    have hrd : Rd W (some a) (bts (u8s (zs.take len))) := Rd.ofBytes hcell hws
    refine ⟨u8s (zs.take len), by rw [u8s_length, hlen], hrd, ?_⟩
    rw [u8s_length]
    simp only [Rows.uptoBulk]
    omega
theorem arg_int {H : Type} {enc : TypeId × Value → H} {W : World} {v : Value} {r : Reach} {b0 : Nat} {d : DataW H} {p : List MemPlace} (hv : Value.okWide Tryz.prog W r b0 3 v) (h : DataW.Trod enc Tryz.prog W 0 (fun _ => true) true 3 v d p) :
    ∃ z : Int, v = .int .i64 z ∧ d = .lit (.int .i64 z) ∧ p = [] ∧ (-9223372036854775808 ≤ z ∧ z ≤ 9223372036854775807) := by
  obtain ⟨n, h1, h2, h3, h4⟩ := open_int Tryz.underlying3 hv h
  refine ⟨n, h1, h2, h3, ?_⟩
  simp [Lit.wf] at h4
  have hm : IntKind.i64.min = -9223372036854775808 := by decide
  rw [hm] at h4
  exact h4
end Go.Proofs.YteecbbnpgmceiaaGreatDoor
