import Derived.Test.YtjoiaejbahdjkaaGreatLeb
import Derived.Test.YtjoiaejbahdjkaaGreatOrd
namespace Go.Proofs.YtjoiaejbahdjkaaGreat
open Go Go.RowKit Go.Mine
set_option maxHeartbeats 400000
set_option maxRecDepth 100000
set_option linter.unusedVariables false
def getGo (i acc : Nat) : List UInt8 → Nat × Nat × Nat
 | [] => (0, 0, 10)
 | c :: r => if (i = 9 ∧ 1 < c.toNat) ∨ (0 < i ∧ c.toNat = 0) then (0, 0, 11) else if c.toNat < 128 then (acc + c.toNat * 2 ^ (7 * i), i + 1, 0) else getGo (i + 1) (acc + c.toNat % 128 * 2 ^ (7 * i)) r
def getL (l : List UInt8) : Nat × Nat × Nat := getGo 0 0 l
theorem or_shl (acc m j : Nat) (h1 : acc < 2 ^ j) (h2 : m * 2 ^ j < 2 ^ 64) (h3 : acc < 2 ^ 64) : bits .or .u64 (acc : Int) (IntKind.u64.wrap ((m : Int) * 2 ^ j)) = ((acc + m * 2 ^ j : Nat) : Int) := by
 have e : ((m : Int) * 2 ^ j) = ((m * 2 ^ j : Nat) : Int) := by push_cast; rfl
 have e2 : (((m * 2 ^ j : Nat) : Int) % 18446744073709551616) = ((m * 2 ^ j : Nat) : Int) := by omega
 rw [e, IntKind.wrap_u64, e2, u64_or_nat acc (m * 2 ^ j) (by omega) (by omega)]
 have := Nat.two_pow_add_eq_or_of_lt h1 m
 rw [Nat.or_comm, Nat.mul_comm m, ← this, Nat.add_comm]
theorem and127 (m : Nat) (h : m < 256) : bits BinOp.and IntKind.u8 (m : Int) 127 = ((m % 128 : Nat) : Int) := by
 have h1 : ∀ x : Fin 256, x.val &&& 127 = x.val % 128 := by decide +kernel
 have := u8_and_nat m 127 h (by omega)
 rw [show ((127 : Nat) : Int) = 127 from rfl] at this
 rw [this, h1 ⟨m, h⟩]
theorem wrap64_small (m : Nat) (h : m < 2 ^ 64) : IntKind.u64.wrap (m : Int) = m := by rw [IntKind.wrap_u64]; omega
theorem ret_uii {a a' b b' c c' : Int} (h1 : a = a') (h2 : b = b') (h3 : c = c') : Ending.returned (.tuple #[.int .u64 a, .int .i64 b, .int .i64 c]) = .returned (.tuple #[.int .u64 a', .int .i64 b', .int .i64 c']) := by rw [h1, h2, h3]
theorem getGo_bad {i acc : Nat} {c : UInt8} {r : List UInt8} (h : (i = 9 ∧ 1 < c.toNat) ∨ (0 < i ∧ c.toNat = 0)) : getGo i acc (c :: r) = (0, 0, 11) := by rw [getGo, if_pos h]
theorem getGo_end {i acc : Nat} {c : UInt8} {r : List UInt8} (h : ¬ ((i = 9 ∧ 1 < c.toNat) ∨ (0 < i ∧ c.toNat = 0))) (h2 : c.toNat < 128) : getGo i acc (c :: r) = (acc + c.toNat * 2 ^ (7 * i), i + 1, 0) := by rw [getGo, if_neg h, if_pos h2]
theorem getGo_go {i acc : Nat} {c : UInt8} {r : List UInt8} (h : ¬ ((i = 9 ∧ 1 < c.toNat) ∨ (0 < i ∧ c.toNat = 0))) (h2 : ¬ c.toNat < 128) : getGo i acc (c :: r) = getGo (i + 1) (acc + c.toNat % 128 * 2 ^ (7 * i)) r := by rw [getGo, if_neg h, if_neg h2]
theorem pow7 {k m : Nat} (h : k ≤ 9) (h2 : m < 128) (h3 : k = 9 → m ≤ 1) : m * 2 ^ (7 * k) < 2 ^ 64 := by
 have : k = 0 ∨ k = 1 ∨ k = 2 ∨ k = 3 ∨ k = 4 ∨ k = 5 ∨ k = 6 ∨ k = 7 ∨ k = 8 ∨ k = 9 := by omega
 rcases this with rfl | rfl | rfl | rfl | rfl | rfl | rfl | rfl | rfl | rfl <;> simp <;> omega
theorem pow7b {k m : Nat} (h : k ≤ 9) (h2 : m < 128) (h3 : k = 9 → m ≤ 1) : (m + 1) * 2 ^ (7 * k) ≤ 2 ^ 64 := by
 have : k = 0 ∨ k = 1 ∨ k = 2 ∨ k = 3 ∨ k = 4 ∨ k = 5 ∨ k = 6 ∨ k = 7 ∨ k = 8 ∨ k = 9 := by omega
 rcases this with rfl | rfl | rfl | rfl | rfl | rfl | rfl | rfl | rfl | rfl <;> simp <;> omega
theorem pow7a {k : Nat} (h : k ≤ 9) : 2 ^ (7 * k) ≤ 2 ^ 63 := Nat.pow_le_pow_right (by omega) (by omega)
theorem getGo_spec : ∀ (l : List UInt8) (i acc : Nat), i ≤ 9 → acc < 2 ^ (7 * i) →
 ((getGo i acc l).2.2 = 0 ∧ i < (getGo i acc l).2.1 ∧ (getGo i acc l).2.1 ≤ i + l.length ∧ (getGo i acc l).1 < 2 ^ 64) ∨ getGo i acc l = (0, 0, 10) ∨ getGo i acc l = (0, 0, 11)
 | [], i, acc, _, _ => .inr (.inl rfl)
 | c :: r, i, acc, hi, ha => by
   by_cases hb : (i = 9 ∧ 1 < c.toNat) ∨ (0 < i ∧ c.toNat = 0)
   ·exact .inr (.inr (getGo_bad hb))
   ·by_cases hs : c.toNat < 128
    ·rw [getGo_end hb hs]
     refine .inl ⟨rfl, by simp, by simp, ?_⟩
     have := pow7b (k := i) (m := c.toNat) hi hs (fun h => by omega)
     rw [Nat.add_mul, Nat.one_mul] at this
     simp only
     omega
    ·rw [getGo_go hb hs]
     have hi8 : i ≤ 8 := by
      have := c.toNat_lt
      omega
     have h3 : c.toNat % 128 * 2 ^ (7 * i) ≤ 127 * 2 ^ (7 * i) := Nat.mul_le_mul_right _ (by omega)
     have h2 : 2 ^ (7 * (i + 1)) = 2 ^ (7 * i) * 128 := by rw [show 7 * (i + 1) = 7 * i + 7 from by omega, Nat.pow_add]
     rcases getGo_spec r (i + 1) (acc + c.toNat % 128 * 2 ^ (7 * i)) (by omega) (by omega) with ⟨h4, h5, h6, h7⟩ | h | h
     ·exact .inl ⟨h4, by omega, by simp only [List.length_cons]; omega, h7⟩
     ·exact .inr (.inl h)
     ·exact .inr (.inr h)
theorem getL_spec (l : List UInt8) : ((getL l).2.2 = 0 ∧ 0 < (getL l).2.1 ∧ (getL l).2.1 ≤ l.length ∧ (getL l).1 < 2 ^ 64) ∨ getL l = (0, 0, 10) ∨ getL l = (0, 0, 11) := by
 have := getGo_spec l 0 0 (by omega) (by omega)
 simpa [getL] using this
theorem getL_le (l : List UInt8) : (getL l).2.1 ≤ l.length := by
 rcases getL_spec l with h | h | h
 ·exact h.2.2.1
 ·rw [h]; simp
 ·rw [h]; simp
theorem get_any (a : Option Addr) (l : List UInt8) (c : Nat) (w : World) (hr : Rd w a (bts l)) (hl : l.length < 2^60) :
 Calls Tryz.prog 93 #[.slice a l.length c] w fun e w' => e = .returned (.tuple #[.int .u64 (getL l).1, .int .i64 (getL l).2.1, .int .i64 (getL l).2.2]) ∧ w = w' := by
 have HR := Hi hr; clear hr
 go_enter Tryz.func93, Tryz.ntmps93
 go_wp2
 go_step3
 go_wp2
 go_step3
 go_wp2
 go_loop [5, 6, 9] (fun n e i => ∃ (k acc : Nat), i = .int .i64 k ∧ e = .int .i64 0 ∧ k ≤ 9 ∧ k ≤ l.length ∧ n = .int .u64 acc ∧ acc < 2 ^ (7 * k) ∧ Hid (getL l = getGo k acc (l.drop k))) (fun _ _ i => 10 - (intOf i).toNat)
 case atStart => exact ⟨0, 0, rfl, rfl, by omega, by omega, rfl, by omega, Hi rfl⟩
 case round =>
  obtain ⟨k, acc, rfl, rfl, hk9, hk, rfl, hacc, hG⟩ := hrel
  by_cases hlt : k < l.length
  ·obtain ⟨b, o, rfl, hc⟩ := HR.out k (.int .u8 l[k].toNat) (by simp [bts, hlt])
   have hdrop : l.drop k = l[k] :: l.drop (k + 1) := List.drop_eq_getElem_cons hlt
   have HD := Hi hdrop; clear hdrop
   generalize hcc : l[k] = x at *
   have hx : x.toNat < 256 := x.toNat_lt
   clear hcc
   generalize hxn : x.toNat = m at *
   have HXN := Hi hxn; clear hxn
   have h63 := pow7a hk9
   have hacc2 : acc < 2 ^ 64 := by omega
   have HACC2 := Hi hacc2; have HACC := Hi hacc; clear hacc2 h63 hacc
   by_cases hbad : (k = 9 ∧ 1 < m) ∨ (0 < k ∧ m = 0)
   ·have hres : getL l = (0, 0, 11) := by rw [hG.out, HD.out]; exact getGo_bad (by rw [HXN.out]; exact hbad)
    have HRES := Hi hres; clear hres
    rcases hbad with ⟨h9, h1m⟩ | ⟨hk0, hm0⟩
    ·have e9 : ((k : Int) == 9) = true := by simp; omega
     clear h9
     go_wp2
     go_ret3
     exact ⟨ret_uii (by rw [HRES.out]; rfl) (by rw [HRES.out]; rfl) (by rw [HRES.out]; rfl), rfl⟩
    ·have e3 : ((m : Int) == 0) = true := by simp; omega
     have h1m : ¬ 1 < m := by omega
     clear hm0
     by_cases h9 : k = 9
     ·have e9 : ((k : Int) == 9) = true := by simp; omega
      clear h9
      go_wp2
      go_ret3
      exact ⟨ret_uii (by rw [HRES.out]; rfl) (by rw [HRES.out]; rfl) (by rw [HRES.out]; rfl), rfl⟩
     ·have e9 : ((k : Int) == 9) = false := by simp; omega
      clear h9
      go_wp2
      go_ret3
      exact ⟨ret_uii (by rw [HRES.out]; rfl) (by rw [HRES.out]; rfl) (by rw [HRES.out]; rfl), rfl⟩
   ·have HBAD := Hi hbad; clear hbad
    by_cases hs : m < 128
    ·have hres : getL l = (acc + m * 2 ^ (7 * k), k + 1, 0) := by
      rw [hG.out, HD.out, getGo_end (by rw [HXN.out]; exact HBAD.out) (by rw [HXN.out]; exact hs), HXN.out]
     have hbits := or_shl acc m (7 * k) HACC.out (pow7 hk9 hs (fun h => by have := HBAD.out; omega)) HACC2.out
     have HRES := Hi hres; have HBITS := Hi hbits; clear hres hbits
     by_cases h9 : k = 9
     ·have e9 : ((k : Int) == 9) = true := by simp; omega
      have e1 : ¬ 1 < m := fun h => HBAD.out (.inl ⟨h9, h⟩)
      have e3 : ((m : Int) == 0) = false := by simp; intro h; exact HBAD.out (.inr ⟨by omega, h⟩)
      have hk0 : 0 < k := by omega
      clear h9
      go_wp2
      go_ret3
      exact ⟨ret_uii (by rw [HRES.out]; exact HBITS.out) (by rw [HRES.out]; simp) (by rw [HRES.out]; rfl), rfl⟩
     ·have e9 : ((k : Int) == 9) = false := by simp; omega
      clear h9
      by_cases hk0 : 0 < k
      ·have e3 : ((m : Int) == 0) = false := by simp; intro h; exact HBAD.out (.inr ⟨hk0, h⟩)
       go_wp2
       go_ret3
       exact ⟨ret_uii (by rw [HRES.out]; exact HBITS.out) (by rw [HRES.out]; simp) (by rw [HRES.out]; rfl), rfl⟩
      ·have hkz : decide (0 < k) = false := by simpa using hk0
       go_wp2
       go_ret3
       exact ⟨ret_uii (by rw [HRES.out]; exact HBITS.out) (by rw [HRES.out]; simp) (by rw [HRES.out]; rfl), rfl⟩
    ·have h9 : ¬ k = 9 := fun h => HBAD.out (.inl ⟨h, by omega⟩)
     have e9 : ((k : Int) == 9) = false := by simp; omega
     have hk8 : k ≤ 8 := by omega
     have e3 : ((m : Int) == 0) = false := by simp; omega
     clear h9
     have hres : getL l = getGo (k + 1) (acc + m % 128 * 2 ^ (7 * k)) (l.drop (k + 1)) := by
      rw [hG.out, HD.out, getGo_go (by rw [HXN.out]; exact HBAD.out) (by rw [HXN.out]; exact hs), HXN.out]
     have hp := pow7 (k := k) (m := m % 128) (by omega) (by omega) (by omega)
     have hbits : bits BinOp.or IntKind.u64 (acc : Int) (IntKind.u64.wrap (IntKind.u64.wrap (bits BinOp.and IntKind.u8 (m : Int) 127) * 2 ^ (7 * k))) = ((acc + m % 128 * 2 ^ (7 * k) : Nat) : Int) := by
      rw [and127 m hx, wrap64_small _ (by omega)]
      exact or_shl acc (m % 128) (7 * k) HACC.out hp HACC2.out
     have hlt2 : acc + m % 128 * 2 ^ (7 * k) < 2 ^ (7 * (k + 1)) := by
      have h1 := HACC.out
      have h2 : 2 ^ (7 * (k + 1)) = 2 ^ (7 * k) * 128 := by rw [show 7 * (k + 1) = 7 * k + 7 from by omega, Nat.pow_add]
      have h3 : m % 128 * 2 ^ (7 * k) ≤ 127 * 2 ^ (7 * k) := Nat.mul_le_mul_right _ (by omega)
      rw [h2]; omega
     have HRES := Hi hres; have HBITS := Hi hbits; have HLT2 := Hi hlt2; clear hres hbits hlt2 hp
     by_cases hk0 : 0 < k
     ·have hkz : True := trivial
      go_wp2
      go_round
      case rel => exact ⟨k + 1, _, by go_num, rfl, by omega, by omega, congrArg (Value.int IntKind.u64) HBITS.out, HLT2.out, HRES⟩
      case measure => simp [intOf]; omega
     ·have hkz : decide (0 < k) = false := by simpa using hk0
      go_wp2
      go_round
      case rel => exact ⟨k + 1, _, by go_num, rfl, by omega, by omega, congrArg (Value.int IntKind.u64) HBITS.out, HLT2.out, HRES⟩
      case measure => simp [intOf]; omega
  ·have hres : getL l = (0, 0, 10) := by rw [hG.out, List.drop_eq_nil_of_le (by omega)]; rfl
   have HRES := Hi hres; clear hres
   go_wp2
   go_ret3
   exact ⟨ret_uii (by rw [HRES.out]; rfl) (by rw [HRES.out]; rfl) (by rw [HRES.out]; rfl), rfl⟩
end Go.Proofs.YtjoiaejbahdjkaaGreat
