import Derived.Test.YtphgglnkdfndiaaDoorProg
import Derived.Test.YtphgglnkdfndiaaDoorBase
namespace Go.Proofs.YtphgglnkdfndiaaDoor
open Go Go.RowKit Go.Mine
set_option maxHeartbeats 400000
set_option maxRecDepth 100000
set_option linter.unusedVariables false

/-- the form of a number -/
def lebl (n : Nat) : List UInt8 := if n < 128 then [UInt8.ofNat n] else UInt8.ofNat (n % 128 + 128) :: lebl (n / 128)
termination_by n
decreasing_by omega
theorem lebl_small {n : Nat} (h : n < 128) : lebl n = [UInt8.ofNat n] := by rw [lebl, if_pos h]
theorem lebl_big {n : Nat} (h : 128 ≤ n) : lebl n = UInt8.ofNat (n % 128 + 128) :: lebl (n / 128) := by rw [lebl, if_neg (by omega)]
theorem lebl_len (k : Nat) : ∀ n, n < 128 ^ (k + 1) → (lebl n).length ≤ k + 1 := by
  induction k with
  | zero => intro n h; rw [lebl_small (by simpa using h)]; simp
  | succ k ih =>
    intro n h
    by_cases hn : n < 128
    · rw [lebl_small hn]; simp
    · rw [lebl_big (by omega)]
      have := ih (n / 128) (by rw [Nat.pow_succ] at h; omega)
      simp only [List.length_cons]; omega
theorem lebl_len64 (n : Nat) (h : n < 2^64) : (lebl n).length ≤ 10 := lebl_len 9 n (by omega)
theorem lebl_pos (n : Nat) : 0 < (lebl n).length := by rw [lebl]; split <;> simp

theorem ti24 : TI Tryd.prog 99 5 1 1 := TI.mk' (z := .int .u8 0) (by kernel_rfl) (by kernel_rfl) rfl (by omega)

theorem or128 (m : Nat) : bits BinOp.or IntKind.u8 ((m : Int) % 256) 128 = ((m % 128 + 128 : Nat) : Int) := by
  have e : ((m : Int) % 256) = ((m % 256 : Nat) : Int) := by omega
  have h : ∀ x : Fin 256, x.val ||| 128 = x.val % 128 + 128 := by decide +kernel
  rw [e]
  have := u8_or_nat (m % 256) 128 (by omega) (by omega)
  rw [show ((128 : Nat) : Int) = 128 from rfl] at this
  rw [this, h ⟨m % 256, by omega⟩]
  simp only
  omega
end Go.Proofs.YtphgglnkdfndiaaDoor
