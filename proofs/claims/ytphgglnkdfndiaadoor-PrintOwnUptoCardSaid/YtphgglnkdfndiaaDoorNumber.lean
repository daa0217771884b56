/-
  sibylref09.number: a number's digits.
-/
import Derived.Test.YtphgglnkdfndiaaDoorNorm
import Derived.Test.YtphgglnkdfndiaaDoorOrdG
namespace Go.Proofs.YtphgglnkdfndiaaDoor
open Go Go.RowKit Go.Mine
set_option linter.unusedVariables false
set_option maxHeartbeats 4000000
set_option maxRecDepth 100000

theorem conv_one (z : Int) (x : UInt8) (hz : z = (x.toNat : Int)) (w : World) : (convert 99 9 (.slice (some ⟨w.heap.size, 0, none⟩) 1 1)).run Tryd.prog (w.alloc (.cells #[.int .u8 z] 5)) = .ok (.string ⟨#[x]⟩) (w.alloc (.cells #[.int .u8 z] 5)) := by
  subst hz
  exact run_bytes_str (P := Tryd.prog) (src := 99) (dst := 9) (e := 5) (a := some ⟨w.heap.size, 0, none⟩) (l := [x]) (by kernel_rfl) (by kernel_rfl) (by kernel_rfl) 1 (Rd.new w _ _)
theorem conv_at (x : UInt8) (g : Nat) (w : World) (h : w.heap[g]? = some (.cells #[.int .u8 x.toNat] 5 (0, 0))) : (convert 99 9 (.slice (some ⟨g, 0, none⟩) 1 1)).run Tryd.prog w = .ok (.string ⟨#[x]⟩) w := by
  refine run_bytes_str (P := Tryd.prog) (src := 99) (dst := 9) (e := 5) (a := some ⟨g, 0, none⟩) (l := [x]) (by kernel_rfl) (by kernel_rfl) (by kernel_rfl) 1 ?_
  intro i u hi
  refine ⟨_, _, rfl, ?_⟩
  rw [cell_of_row w g _ _ 5 (0, 0) h]
  cases i with
  | zero => simpa [bts] using hi
  | succ i => simp [bts] at hi
theorem decDigits_le (n : Nat) : (Lib.decDigits n).length ≤ n + 1 := by
  induction n using Nat.strongRecOn with
  | ind n ih =>
    rw [Lib.decDigits]
    split
    · simp
    · have := ih (n / 10) (by omega)
      simp only [List.length_append, List.length_cons, List.length_nil]
      omega
theorem str_add (s t : ByteArray) (h : s.size + t.size ≤ 9223372036854775807) (w : World) : (binOp .add 9 (.string s) (.string t)).run Tryd.prog w = .ok (.string (s ++ t)) w := by
  go_simp
theorem ba_cat (l m : List UInt8) : (⟨l.toArray⟩ : ByteArray) ++ ⟨m.toArray⟩ = ⟨(l ++ m).toArray⟩ := by
  apply ByteArray.ext
  rw [ByteArray.data_append]
  simp
theorem ret_string {s t : ByteArray} (h : s = t) : Ending.returned (.string s) = .returned (.string t) := by rw [h]
end Go.Proofs.YtphgglnkdfndiaaDoor
