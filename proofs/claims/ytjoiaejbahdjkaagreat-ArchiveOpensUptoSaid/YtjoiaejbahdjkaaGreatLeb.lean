import Derived.Test.YtjoiaejbahdjkaaGreatProg
import Derived.Test.YtjoiaejbahdjkaaGreatBase
namespace Go.Proofs.YtjoiaejbahdjkaaGreat
open Go Go.RowKit Go.Mine
set_option maxHeartbeats 400000
set_option maxRecDepth 100000
set_option linter.unusedVariables false
def lebl (n : Nat) : List UInt8 := if n < 128 then [UInt8.ofNat n] else UInt8.ofNat (n % 128 + 128) :: lebl (n / 128)
termination_by n
decreasing_by omega
theorem lebl_small {n : Nat} (h : n < 128) : lebl n = [UInt8.ofNat n] := by rw [lebl, if_pos h]
theorem lebl_big {n : Nat} (h : 128 ≤ n) : lebl n = UInt8.ofNat (n % 128 + 128) :: lebl (n / 128) := by rw [lebl, if_neg (by omega)]
theorem lebl_len (k : Nat) : ∀ n, n < 128 ^ (k + 1) → (lebl n).length ≤ k + 1 := by
 induction k with
 | zero => intro n h; rw [lebl_small (by simpa using h)]; simp
 | succ k ih =>
   intro n h
   by_cases hn : n < 128
   ·rw [lebl_small hn]; simp
   ·rw [lebl_big (by omega)]
    have := ih (n / 128) (by rw [Nat.pow_succ] at h; omega)
    simp only [List.length_cons]; omega
theorem lebl_len64 (n : Nat) (h : n < 2^64) : (lebl n).length ≤ 10 := lebl_len 9 n (by omega)
theorem lebl_pos (n : Nat) : 0 < (lebl n).length := by rw [lebl]; split <;> simp
theorem ti24 : TI Tryz.prog 23 5 1 1 := TI.mk' (z := .int .u8 0) (by kernel_rfl) (by kernel_rfl) rfl (by omega)
theorem or128 (m : Nat) : bits BinOp.or IntKind.u8 ((m : Int) % 256) 128 = ((m % 128 + 128 : Nat) : Int) := by
 have e : ((m : Int) % 256) = ((m % 256 : Nat) : Int) := by omega
 have h : ∀ x : Fin 256, x.val ||| 128 = x.val % 128 + 128 := by decide +kernel
 rw [e]
 have := u8_or_nat (m % 256) 128 (by omega) (by omega)
 rw [show ((128 : Nat) : Int) = 128 from rfl] at this
 rw [this, h ⟨m % 256, by omega⟩]
 simp only
 omega
theorem add_any (a : Option Addr) (c : Nat) (l : List UInt8) (m : Nat) (w : World) (h1 : m < 2^64)
 (hown : Own w 5 1 a l.length c (bts l)) (hn : l.length < 2^40) :
 Calls Tryz.prog 119 #[.slice a l.length c, .int .u64 m] w fun e w' =>
  ∃ a' c', e = .returned (.slice a' (l ++ lebl m).length c') ∧ Own w' 5 1 a' (l ++ lebl m).length c' (bts (l ++ lebl m)) ∧ Grow w a w' a' := by
 have HO := Hi hown; clear hown
 go_enter Tryz.func119, Tryz.ntmps119
 go_wp2
 go_loopw [0, 1] (fun v i wr => ∃ (a' : Option Addr) (c' : Nat) (l' : List UInt8) (m' : Nat), v = .slice a' l'.length c' ∧ i = .int .u64 m' ∧ m' < 2^64 ∧ l'.length ≤ l.length + 10
  ∧ Hid (l' ++ lebl m' = l ++ lebl m) ∧ Hid (Own wr 5 1 a' l'.length c' (bts l')) ∧ Hid (Grow w a wr a')) (fun _ i _ => (intOf i).toNat)
 case atStart => exact ⟨a, c, l, m, rfl, rfl, h1, by omega, Hi rfl, HO, Grow.refl w a⟩
 case round =>
  obtain ⟨a', c', l', m', rfl, rfl, hm, hl, hL, hO, hG⟩ := hrel
  have HM := Hi hm; clear hm
  have H1 := Hi h1; clear h1
  have hx1 : ∀ m' : Nat, m' < 128 → Value.int .u8 ↑m' = .int .u8 ↑(UInt8.ofNat m').toNat := fun m' h => by simp; omega
  have hx2 : ∀ m' : Nat, Value.int .u8 (bits BinOp.or IntKind.u8 (↑m' % 256) 128) = .int .u8 ↑(UInt8.ofNat (m' % 128 + 128)).toNat := fun m' => by rw [or128]; simp; omega
  have HX1 := Hi hx1; have HX2 := Hi hx2; clear hx1 hx2
  by_cases hlt : m' < 128
  ·go_wp2_with (at_builtin; refine wpL_appendN (us := [_]) rfl (.tmp 15) (.tmp 18) 23 rfl ti24 rfl hO.out rfl rfl rfl (by omega) (by unfold maxLen; omega) ?_; intro a2 c2 w2 hO2 hG2 _)
   go_ret
   rw [HX1.out m' hlt] at hO2
   have e : l ++ lebl m = l' ++ [UInt8.ofNat m'] := by rw [← hL.out, lebl_small hlt]
   refine ⟨a2, c2, ?_, ?_, hG.out.trans hG2⟩
   ·simp [e]
   ·rw [e, bts_append, List.length_append]; exact hO2
  ·go_wp2_with (at_builtin; refine wpL_appendN (us := [_]) rfl (.tmp 7) (.tmp 11) 23 rfl ti24 rfl hO.out rfl rfl rfl (by omega) (by unfold maxLen; omega) ?_; intro a2 c2 w2 hO2 hG2 _)
   rw [HX2.out m'] at hO2
   have e : (l' ++ [UInt8.ofNat (m' % 128 + 128)]) ++ lebl (m' / 128) = l ++ lebl m := by rw [← hL.out, lebl_big (n := m') (by omega)]; simp
   have hlen := congrArg List.length e
   have h10 := lebl_len64 m H1.out
   have hp := lebl_pos (m' / 128)
   simp only [List.length_append, List.length_cons, List.length_nil] at hlen
   have hm64 : m' < 2 ^ 64 := HM.out
   go_roundw
   case rel => exact ⟨a2, c2, l' ++ [UInt8.ofNat (m' % 128 + 128)], m' / 128, by simp, by go_num, by omega, by simp; omega, e, by unfold Hid; rw [bts_append, List.length_append]; exact hO2, hG.out.trans hG2⟩
   case measure => simp [intOf]; omega
end Go.Proofs.YtjoiaejbahdjkaaGreat
