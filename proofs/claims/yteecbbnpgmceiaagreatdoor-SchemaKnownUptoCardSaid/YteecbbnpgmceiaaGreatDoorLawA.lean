/-
  What the laws of syntax use: bytes lent and kept, atoms, literals, rules, programs compared.
-/
import Derived.Test.YteecbbnpgmceiaaGreatDoorRefMayG
namespace Go.Proofs.YteecbbnpgmceiaaGreatDoor
open Go Go.RowKit Go.Mine
set_option linter.unusedVariables false
set_option maxHeartbeats 1000000
set_option maxRecDepth 100000

theorem tm_same8 (a : Int) (s : ByteArray) (w : World) : (binOp .neq 100 (.agg #[.int .i64 a, .string s]) (.agg #[.int .i64 a, .string s])).run Tryz.prog w = .ok (.bool false) w := by
  rw [tm_neql]; simp
theorem tm_sameE (a : Int) (s : ByteArray) (w : World) : (binOp .eql 100 (.agg #[.int .i64 a, .string s]) (.agg #[.int .i64 a, .string s])).run Tryz.prog w = .ok (.bool true) w := by
  rw [tm_eql]; simp
/-- what a rule's slices hold -/
def SmR (r : Rm) : Prop := r.head.terms.length < 2 ^ 30 ∧ r.body.length < 2 ^ 30 ∧ ∀ l ∈ r.body, l.atom.terms.length < 2 ^ 30
end Go.Proofs.YteecbbnpgmceiaaGreatDoor
/-
  What the laws of syntax use: bytes lent and kept.
-/
namespace Go.Proofs.YteecbbnpgmceiaaGreatDoor
open Go Go.RowKit Go.Mine
set_option linter.unusedVariables false
set_option maxHeartbeats 1000000
set_option maxRecDepth 100000

theorem bts_cell {w : World} {a : Option Addr} {l : List UInt8} (h : Rd w a (bts l)) {k : Nat} (hk : k < l.length) : ∃ b o, a = some ⟨b, o, none⟩ ∧ w.cell? ⟨b, o + k, none⟩ = some (.int .u8 l[k].toNat) :=
  h k (.int .u8 l[k].toNat) (by rw [bts, List.getElem?_map, List.getElem?_eq_getElem hk]; rfl)
end Go.Proofs.YteecbbnpgmceiaaGreatDoor
