/-
  Which programs may be: the document's answer, walked.
-/
import Derived.Test.YtphgglnkdfndiaaDoorMayG
import Derived.Test.YtphgglnkdfndiaaDoorRfWG
namespace Go.Proofs.YtphgglnkdfndiaaDoor
open Go Go.RowKit Go.Mine
set_option linter.unusedVariables false
set_option maxHeartbeats 4000000
set_option maxRecDepth 100000

end Go.Proofs.YtphgglnkdfndiaaDoor
/-
  Literals, rules, programs that may be: the document's answer, walked.
-/
namespace Go.Proofs.YtphgglnkdfndiaaDoor
open Go Go.RowKit Go.Mine
set_option linter.unusedVariables false
set_option maxHeartbeats 4000000
set_option maxRecDepth 100000

theorem tm_neql (a b : Int) (s t : ByteArray) (w : World) : (binOp .neq 42 (.agg #[.int .i64 a, .string s]) (.agg #[.int .i64 b, .string t])).run Tryd.prog w = .ok (.bool (!(a == b && s.toList == t.toList))) w := by
  have u3 := Tryd.underlying3
  have hS : Tryd.prog.underlying 42 = some (.struct (Tryd.prog.fieldsOf 42)) := by kernel_rfl
  have hp : Tryd.prog.stoodInHeld 42 = false := by kernel_rfl
  rw [run_neq_struct, show (10000 : Nat) = 9999 + 1 from rfl, run_equalIn_agg w 9999 42 _ _ hS hp]
  simp only [Program.fieldsOf, Tryd.underlying42]
  go_simp
  by_cases h1 : a = b <;> by_cases h2 : s.toList = t.toList <;> simp [h1, h2]
theorem tm_nzero (a : Int) (s : ByteArray) (w : World) : (binOp .neq 42 (.agg #[.int .i64 a, .string s]) (.agg #[.int .i64 0, .string ⟨#[]⟩])).run Tryd.prog w = .ok (.bool (!zeroT a s)) w := by
  rw [tm_neql]
  unfold zeroT
  have : (⟨#[]⟩ : ByteArray).toList = [] := by rw [ByteArray.toList_eq]
  rw [this]
end Go.Proofs.YtphgglnkdfndiaaDoor
