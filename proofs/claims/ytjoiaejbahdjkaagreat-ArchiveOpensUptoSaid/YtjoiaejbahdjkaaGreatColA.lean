/-
  Differences as numbers, how long a number's form is: walked.
-/
import Derived.Test.YtjoiaejbahdjkaaGreatColL
import Derived.Test.YtjoiaejbahdjkaaGreatCrc
import Derived.Test.YtjoiaejbahdjkaaGreatLbG
import Derived.Laws.BitsAllLaws
namespace Go.Proofs.YtjoiaejbahdjkaaGreat
open Go Go.RowKit Go.Mine
set_option linter.unusedVariables false
set_option maxHeartbeats 4000000
set_option maxRecDepth 100000
theorem ret_u64 {a b : Int} (h : a = b) : Ending.returned (.int .u64 a) = .returned (.int .u64 b) := by rw [h]
theorem ret_i64 {a b : Int} (h : a = b) : Ending.returned (.int .i64 a) = .returned (.int .i64 b) := by rw [h]
theorem xorOnesK (k m : Nat) (h : m < 2 ^ k) : m ^^^ (2 ^ k - 1) = 2 ^ k - 1 - m := by
 refine Nat.eq_of_testBit_eq fun i => ?_
 rw [Nat.testBit_xor]
 have h2 : 2 ^ k - 1 - m = 2 ^ k - (m + 1) := by omega
 rw [h2, Nat.testBit_two_pow_sub_succ h, Nat.testBit_two_pow_sub_one]
 by_cases hi : i < k
 ·simp [hi]
 ·simp [hi]
  exact Nat.testBit_lt_two_pow (Nat.lt_of_lt_of_le h (Nat.pow_le_pow_right (by omega) (by omega)))
theorem turnP_any (d : Int) (h1 : -2 ^ 32 < d) (h2 : d < 2 ^ 32) (w : World) : Calls Tryz.prog 193 #[.int .i64 d] w fun e w' => e = .returned (.int .u64 (turnN d : Nat)) ∧ w = w' := by
 have H : Hid (bits .xor .u64 (IntKind.u64.wrap (IntKind.u64.wrap d * 2)) (IntKind.u64.wrap (d / 9223372036854775808)) = ((turnN d : Nat) : Int)) := Hi (by
  simp only [IntKind.wrap_u64]
  by_cases h0 : 0 ≤ d
  ·obtain ⟨n, rfl⟩ := Int.eq_ofNat_of_zero_le h0
   have e1 : (((n : Int) % 18446744073709551616) * 2) % 18446744073709551616 = ((2 * n : Nat) : Int) := by omega
   have e2 : ((n : Int) / 9223372036854775808) % 18446744073709551616 = ((0 : Nat) : Int) := by omega
   rw [e1, e2, u64_xor_nat (2 * n) 0 (by omega) (by omega), Nat.xor_zero]
   unfold turnN
   rw [if_pos h0]
   omega
  ·obtain ⟨n, hn⟩ : ∃ n : Nat, d = -(n : Int) := ⟨d.natAbs, by omega⟩
   subst hn
   have e1 : ((-(n : Int) % 18446744073709551616) * 2) % 18446744073709551616 = ((18446744073709551616 - 2 * n : Nat) : Int) := by omega
   have e2 : (-(n : Int) / 9223372036854775808) % 18446744073709551616 = ((2 ^ 64 - 1 : Nat) : Int) := by omega
   rw [e1, e2, u64_xor_nat _ _ (by omega) (by omega), xorOnesK 64 _ (by omega)]
   unfold turnN
   rw [if_neg h0]
   omega)
 go_enter Tryz.func193, Tryz.ntmps193
 go_wp2_with fail
 go_ret
 exact ⟨ret_u64 H.out, rfl⟩
theorem i64_xor_ones (x : Int) (h1 : 0 ≤ x) (h2 : x < 2 ^ 63) : bits .xor .i64 x (-1) = -x - 1 := by
 obtain ⟨n, rfl⟩ := Int.eq_ofNat_of_zero_le h1
 show IntKind.i64.wrap ((BitVec.ofInt 64 (n : Int) ^^^ BitVec.ofInt 64 (-1)).toNat : Int) = _
 have e1 : (BitVec.ofInt 64 (n : Int)).toNat = n := by rw [BitVec.toNat_ofInt]; omega
 have e2 : (BitVec.ofInt 64 (-1)).toNat = 2 ^ 64 - 1 := by decide
 rw [BitVec.toNat_xor, e1, e2, xorOnesK 64 n (by omega)]
 simp only [IntKind.wrap_i64]
 omega
theorem i64_xor_zero (x : Int) (h1 : 0 ≤ x) (h2 : x < 2 ^ 63) : bits .xor .i64 x 0 = x := by
 obtain ⟨n, rfl⟩ := Int.eq_ofNat_of_zero_le h1
 show IntKind.i64.wrap ((BitVec.ofInt 64 (n : Int) ^^^ BitVec.ofInt 64 0).toNat : Int) = _
 have e1 : (BitVec.ofInt 64 (n : Int)).toNat = n := by rw [BitVec.toNat_ofInt]; omega
 have e2 : (BitVec.ofInt 64 0).toNat = 0 := by decide
 rw [BitVec.toNat_xor, e1, e2, Nat.xor_zero]
 simp only [IntKind.wrap_i64]
 omega
theorem and1_64 (m : Nat) (h : m < 2 ^ 64) : bits .and .u64 (m : Int) 1 = ((m % 2 : Nat) : Int) := by
 have := u64_and_nat m 1 h (by decide)
 rw [show ((1 : Nat) : Int) = 1 from rfl] at this
 rw [this, Nat.and_one_is_mod]
theorem backP_any (n : Nat) (h : n < 2 ^ 64) (w : World) : Calls Tryz.prog 194 #[.int .u64 (n : Nat)] w fun e w' => e = .returned (.int .i64 (backN n)) ∧ w = w' := by
 have H : Hid (bits .xor .i64 ((n : Int) / 2) (wrap64 (-wrap64 (bits .and .u64 (n : Int) 1))) = backN n) := Hi (by
  rw [and1_64 n h]
  unfold backN
  by_cases h0 : n % 2 = 0
  ·rw [if_pos h0, h0]
   have e0 : wrap64 (-wrap64 ((0 : Nat) : Int)) = 0 := by simp [wrap64]
   rw [e0]
   rw [i64_xor_zero _ (by omega) (by omega)]
   omega
  ·rw [if_neg h0, show n % 2 = 1 by omega]
   have e0 : wrap64 (-wrap64 ((1 : Nat) : Int)) = -1 := by simp [wrap64]
   rw [e0]
   rw [i64_xor_ones _ (by omega) (by omega)]
   omega)
 go_enter Tryz.func194, Tryz.ntmps194
 go_wp2_with fail
 go_ret
 exact ⟨ret_i64 H.out, rfl⟩
theorem turnR_any (d : Int) (h1 : -2 ^ 32 < d) (h2 : d < 2 ^ 32) (w : World) : Calls Tryz.prog 190 #[.int .i64 d] w fun e w' => e = .returned (.int .u64 (turnN d : Nat)) ∧ w = w' := by
 by_cases h0 : 0 ≤ d
 ·have H : Hid (((turnN d : Nat) : Int) = 2 * d) := Hi (by unfold turnN; rw [if_pos h0]; omega)
  go_enter Tryz.func190, Tryz.ntmps190
  go_wp2_with fail
  go_ret
  exact ⟨ret_u64 (by rw [H.out]; try simp only [IntKind.wrap_u64]; try omega), rfl⟩
 ·have H : Hid (((turnN d : Nat) : Int) = -2 * d - 1) := Hi (by unfold turnN; rw [if_neg h0]; omega)
  go_enter Tryz.func190, Tryz.ntmps190
  go_wp2_with fail
  go_ret
  exact ⟨ret_u64 (by rw [H.out]; omega), rfl⟩
theorem backR_any (n : Nat) (h : n < 2 ^ 64) (w : World) : Calls Tryz.prog 155 #[.int .u64 (n : Nat)] w fun e w' => e = .returned (.int .i64 (backN n)) ∧ w = w' := by
 by_cases h0 : n % 2 = 0
 ·have e : backN n = ((n / 2 : Nat) : Int) := by unfold backN; rw [if_pos h0]
  rw [e]
  clear e
  go_enter Tryz.func155, Tryz.ntmps155
  go_wp2_with fail
  go_ret
  exact ⟨ret_i64 (by omega), rfl⟩
 ·have e : backN n = -((n / 2 : Nat) : Int) - 1 := by unfold backN; rw [if_neg h0]
  rw [e]
  clear e
  go_enter Tryz.func155, Tryz.ntmps155
  go_wp2_with fail
  go_ret
  exact ⟨ret_i64 (by omega), rfl⟩
theorem bitLen_lenN : ∀ (f x : Nat), x < 2 ^ f → Lib.bitLenAux f x = lenN x
 | 0, x, h => by
   have : x = 0 := by simpa using h
   subst this; rfl
 | f + 1, x, h => by
   unfold Lib.bitLenAux
   by_cases h0 : x = 0
   ·subst h0; rfl
   ·rw [if_neg h0, bitLen_lenN f (x / 2) (by rw [Nat.pow_succ] at h; omega)]
    by_cases h1 : x = 1
    ·subst h1; rfl
    ·rw [lenN_shift (n := x) (j := 1) (by omega)]
theorem len64_any (n : Nat) (h : n < 2 ^ 64) (w : World) : Calls Tryz.prog 148 #[.int .u64 (n : Nat)] w fun e w' => e = .returned (.int .i64 (lenN n : Nat)) ∧ w = w' :=
 (Any.bits_Len64 lays129 (n : Int) w (by omega) (by omega)).mono fun e w' ⟨he, hw⟩ => ⟨by rw [he]; show _ = Ending.returned (.int .i64 (lenN n : Nat)); rw [← bitLen_lenN 64 n h]; rfl, hw.symm⟩
theorem len32_any (n : Nat) (h : n < 2 ^ 32) (w : World) : Calls Tryz.prog 147 #[.int .u32 (n : Nat)] w fun e w' => e = .returned (.int .i64 (lenN n : Nat)) ∧ w = w' :=
 (Any.bits_Len32 lays128 (n : Int) w (by omega) (by omega)).mono fun e w' ⟨he, hw⟩ => ⟨by rw [he]; show _ = Ending.returned (.int .i64 (lenN n : Nat)); rw [← bitLen_lenN 64 n (by omega)]; rfl, hw.symm⟩
theorem size_any (n : Nat) (h : n < 2 ^ 64) (w : World) : Calls Tryz.prog 171 #[.int .u64 (n : Nat)] w fun e w' => e = .returned (.int .i64 ((lebl n).length : Nat)) ∧ w = w' := by
 have H := Hi (lebl_size n)
 have hb : lenN n ≤ 64 := lenN_le.2 h
 go_enter Tryz.func171, Tryz.ntmps171
 go_wp2_with fail
 refine (len64_any n h w).mono ?_
 rintro e w' ⟨rfl, hw⟩
 obtain rfl : w = w' := hw
 generalize lenN n = k at *
 go_wp2_with fail
 go_ret
 exact ⟨ret_i64 (by rw [H.out]; omega), rfl⟩
end Go.Proofs.YtjoiaejbahdjkaaGreat
