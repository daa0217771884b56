/-
  The check sum of files: half a byte at a time, or bit by bit.
-/
import Derived.Test.YtjoiaejbahdjkaaGreatLeb
import Derived.Test.YtjoiaejbahdjkaaGreatOrd
namespace Go.Proofs.YtjoiaejbahdjkaaGreat
open Go Go.RowKit Go.Mine
set_option linter.unusedVariables false
set_option maxHeartbeats 4000000
set_option maxRecDepth 100000
def polyN : Nat := 3988292384
def stepN (r : Nat) : Nat := if r % 2 = 0 then r / 2 else r / 2 ^^^ polyN
def step4 (r : Nat) : Nat := stepN (stepN (stepN (stepN r)))
def takeN (r : Nat) (c : UInt8) : Nat := step4 (step4 (r ^^^ c.toNat))
def crcT (r : Nat) (l : List UInt8) : Nat := l.foldl takeN r
def crcU (s : Nat) (l : List UInt8) : Nat := crcT (s ^^^ 4294967295) l ^^^ 4294967295
def crcL (l : List UInt8) : Nat := crcU 0 l
theorem stepN_lt {r : Nat} (h : r < 4294967296) : stepN r < 4294967296 := by
 unfold stepN
 split
 ·omega
 ·exact Nat.xor_lt_two_pow (n := 32) (by omega) (by decide)
theorem step4_lt {r : Nat} (h : r < 4294967296) : step4 r < 4294967296 := stepN_lt (stepN_lt (stepN_lt (stepN_lt h)))
theorem takeN_lt {r : Nat} {c : UInt8} (h : r < 4294967296) : takeN r c < 4294967296 :=
 step4_lt (step4_lt (Nat.xor_lt_two_pow (n := 32) h (by have := c.toNat_lt; omega)))
theorem crcT_lt {l : List UInt8} : ∀ {r : Nat}, r < 4294967296 → crcT r l < 4294967296 := by
 induction l with
 | nil => intro r h; exact h
 | cons c l ih => intro r h; exact ih (takeN_lt h)
theorem crcU_lt {s : Nat} {l : List UInt8} (h : s < 4294967296) : crcU s l < 4294967296 :=
 Nat.xor_lt_two_pow (n := 32) (crcT_lt (Nat.xor_lt_two_pow (n := 32) h (by decide))) (by decide)
theorem crcL_lt (l : List UInt8) : crcL l < 4294967296 := crcU_lt (by decide)
theorem xmod2 (a b : Nat) : (a ^^^ b) % 2 = (a + b) % 2 := by
 have h := Nat.xor_mod_two_pow (a := a) (b := b) (n := 1)
 rw [show 2 ^ 1 = 2 from rfl] at h
 rw [h]
 rcases Nat.mod_two_eq_zero_or_one a with ha | ha <;> rcases Nat.mod_two_eq_zero_or_one b with hb | hb <;> rw [ha, hb] <;> simp <;> omega
theorem stepN_xor (a b : Nat) : stepN (a ^^^ b) = stepN a ^^^ stepN b := by
 unfold stepN
 have h2 : (a ^^^ b) / 2 = a / 2 ^^^ b / 2 := Nat.xor_div_two
 have h1 : (a ^^^ b) % 2 = (a + b) % 2 := xmod2 _ _
 rw [h1, h2]
 by_cases ha : a % 2 = 0 <;> by_cases hb : b % 2 = 0
 ·rw [if_pos (by omega), if_pos ha, if_pos hb]
 ·rw [if_neg (by omega), if_pos ha, if_neg hb, Nat.xor_assoc]
 ·rw [if_neg (by omega), if_neg ha, if_pos hb, Nat.xor_assoc, Nat.xor_comm (b / 2), Nat.xor_assoc]
 ·rw [if_pos (by omega), if_neg ha, if_neg hb, Nat.xor_assoc, Nat.xor_comm polyN, Nat.xor_assoc, Nat.xor_self, Nat.xor_zero]
theorem step4_xor (a b : Nat) : step4 (a ^^^ b) = step4 a ^^^ step4 b := by unfold step4; simp only [stepN_xor]
theorem xor_low : ∀ (k q s : Nat), s < 2 ^ k → 2 ^ k * q ^^^ s = 2 ^ k * q + s
 | 0, q, s, h => by
   have : s = 0 := by simpa using h
   subst this; simp
 | k + 1, q, s, h => by
   have h2 : (2 ^ (k + 1) * q ^^^ s) / 2 = 2 ^ (k + 1) * q / 2 ^^^ s / 2 := Nat.xor_div_two
   have h1 : (2 ^ (k + 1) * q ^^^ s) % 2 = (2 ^ (k + 1) * q + s) % 2 := xmod2 _ _
   have e : 2 ^ (k + 1) * q / 2 = 2 ^ k * q := by rw [Nat.pow_succ, Nat.mul_right_comm, Nat.mul_div_cancel _ (by omega)]
   have ih := xor_low k q (s / 2) (by rw [Nat.pow_succ] at h; omega)
   rw [e, ih] at h2
   have e3 : 2 ^ (k + 1) * q = 2 * (2 ^ k * q) := by rw [Nat.pow_succ, Nat.mul_comm (2 ^ k) 2, Nat.mul_assoc]
   rw [e3] at h1 h2 ⊢
   omega
theorem stepN_two (n : Nat) : stepN (2 * n) = n := by unfold stepN; rw [if_pos (by omega)]; omega
theorem step4_half (r : Nat) : step4 r = r / 16 ^^^ step4 (r % 16) := by
 have e : r = 2 ^ 4 * (r / 16) ^^^ r % 16 := by rw [xor_low 4 _ _ (by omega)]; omega
 have e4 : step4 (2 ^ 4 * (r / 16)) = r / 16 := by
  unfold step4
  rw [show 2 ^ 4 * (r / 16) = 2 * (2 * (2 * (2 * (r / 16)))) by omega, stepN_two, stepN_two, stepN_two, stepN_two]
 conv => lhs; rw [e]
 rw [step4_xor, e4]
theorem and15 (m : Nat) (h : m < 4294967296) : bits .and .u32 (m : Int) 15 = ((m % 16 : Nat) : Int) := by
 have := u32_and_nat m 15 h (by decide)
 rw [show ((15 : Nat) : Int) = 15 from rfl] at this
 rw [this, show (15 : Nat) = 2 ^ 4 - 1 from rfl, Nat.and_two_pow_sub_one_eq_mod]
theorem and1 (m : Nat) (h : m < 4294967296) : bits .and .u32 (m : Int) 1 = ((m % 2 : Nat) : Int) := by
 have := u32_and_nat m 1 h (by decide)
 rw [show ((1 : Nat) : Int) = 1 from rfl] at this
 rw [this, Nat.and_one_is_mod]
theorem ret_u32 {a b : Int} (h : a = b) : Ending.returned (.int .u32 a) = .returned (.int .u32 b) := by rw [h]
theorem stepR_any (r : Nat) (hr : r < 4294967296) (w : World) : Calls Tryz.prog 123 #[.int .u32 (r : Nat)] w fun e w' => e = .returned (.int .u32 (stepN r : Nat)) ∧ w = w' := by
 by_cases h0 : r % 2 = 0
 ·have e : stepN r = r / 2 := by unfold stepN; rw [if_pos h0]
  rw [e]
  clear e
  go_enter Tryz.func123, Tryz.ntmps123
  go_wp2_with fail
  go_ret
  exact ⟨ret_u32 (by omega), rfl⟩
 ·have e : stepN r = r / 2 ^^^ polyN := by unfold stepN; rw [if_neg h0]
  have HX := Hi (u32_xor_nat (r / 2) polyN (by omega) (by decide))
  rw [e]
  go_enter Tryz.func123, Tryz.ntmps123
  go_wp2_with fail
  go_ret
  exact ⟨ret_u32 HX.out, rfl⟩
theorem stepP_any (r : Nat) (hr : r < 4294967296) (w : World) : Calls Tryz.prog 124 #[.int .u32 (r : Nat)] w fun e w' => e = .returned (.int .u32 (stepN r : Nat)) ∧ w = w' := by
 have h1 := and1 r hr
 have H : Hid (bits .xor .u32 ((r : Int) / 2) (bits .and .u32 3988292384 (-((r : Int) % 2) % 4294967296)) = ((stepN r : Nat) : Int)) := Hi (by
  unfold stepN
  by_cases h0 : r % 2 = 0
  ·rw [if_pos h0]
   have e : -((r : Int) % 2) % 4294967296 = ((0 : Nat) : Int) := by omega
   have e2 := u32_and_nat 3988292384 0 (by decide) (by decide)
   rw [show ((3988292384 : Nat) : Int) = 3988292384 from rfl] at e2
   rw [e, e2]
   have e3 := u32_xor_nat (r / 2) (3988292384 &&& 0) (by omega) (by decide)
   rw [show ((r / 2 : Nat) : Int) = (r : Int) / 2 by omega] at e3
   rw [e3]
   simp
  ·rw [if_neg h0]
   have e : -((r : Int) % 2) % 4294967296 = ((4294967295 : Nat) : Int) := by omega
   have e2 := u32_and_nat 3988292384 4294967295 (by decide) (by decide)
   rw [show ((3988292384 : Nat) : Int) = 3988292384 from rfl] at e2
   rw [e, e2]
   have e3 := u32_xor_nat (r / 2) (3988292384 &&& 4294967295) (by omega) (by decide)
   rw [show ((r / 2 : Nat) : Int) = (r : Int) / 2 by omega] at e3
   rw [e3]
   rfl)
 go_enter Tryz.func124, Tryz.ntmps124
 go_wp2_with fail
 go_ret
 exact ⟨ret_u32 H.out, rfl⟩
theorem takeR_any (r : Nat) (c : UInt8) (hr : r < 4294967296) (w : World) : Calls Tryz.prog 104 #[.int .u32 (r : Nat), .int .u8 (c.toNat : Nat)] w fun e w' => e = .returned (.int .u32 (takeN r c : Nat)) ∧ w = w' := by
 have hc := c.toNat_lt
 have HX := Hi (u32_xor_nat r c.toNat hr (by omega))
 have hx : r ^^^ c.toNat < 4294967296 := Nat.xor_lt_two_pow (n := 32) hr (by omega)
 obtain ⟨x, hxe⟩ : ∃ x, x = r ^^^ c.toNat := ⟨_, rfl⟩
 have HE : Hid (takeN r c = Nat.repeat stepN 8 x) := Hi (by rw [hxe]; rfl)
 rw [← hxe] at hx HX
 clear hxe
 generalize c.toNat = m at *
 generalize takeN r c = z at *
 go_enter Tryz.func104, Tryz.ntmps104
 go_wp2_with fail
 rw [HX.out]
 go_loopw [0, 5] (fun rv iv wr => ∃ k : Nat, iv = .int .i64 k ∧ k ≤ 8 ∧ rv = .int .u32 (Nat.repeat stepN k x : Nat) ∧ wr = w) (fun _ iv _ => 8 - (intOf iv).toNat)
 case atStart => exact ⟨0, rfl, by omega, rfl, rfl⟩
 case round =>
  obtain ⟨k, rfl, hk, rfl, hww⟩ := hrel
  obtain rfl : w = wr := hww.symm
  have hlt : Nat.repeat stepN k x < 4294967296 := by
   have : ∀ n, Nat.repeat stepN n x < 4294967296 := fun n => by
    induction n with
    | zero => exact hx
    | succ n ih => exact stepN_lt ih
   exact this k
  have hsx : Nat.repeat stepN (k + 1) x = stepN (Nat.repeat stepN k x) := rfl
  have HSX := Hi hsx
  clear hsx hww
  by_cases h8 : k < 8
  ·generalize Nat.repeat stepN k x = y at *
   go_wp2_with (go_at_call 123; refine (stepR_any y hlt w).mono ?_; rintro e w' ⟨rfl, rfl⟩)
   go_roundw
   case rel => exact ⟨k + 1, by go_num, h8, by rw [HSX.out], trivial⟩
   case measure => simp [intOf]; omega
  ·obtain rfl : k = 8 := by omega
   rw [← HE.out]
   clear HSX hlt
   go_wp2_with fail
   go_ret
   exact ⟨rfl, rfl⟩
theorem crcT_snoc (r : Nat) (l : List UInt8) (c : UInt8) : crcT r (l ++ [c]) = takeN (crcT r l) c := by simp [crcT]
theorem byte_cell {w : World} {a : Option Addr} {l : List UInt8} (h : Rd w a (bts l)) {i : Nat} (hi : i < l.length) : ∃ b o, a = some ⟨b, o, none⟩ ∧ w.cell? ⟨b, o + i, none⟩ = some (.int .u8 (l[i].toNat : Nat)) := by
 obtain ⟨b, o, e, hc⟩ := h i (.int .u8 l[i].toNat) (by unfold bts; rw [List.getElem?_map, List.getElem?_eq_getElem hi]; rfl)
 exact ⟨b, o, e, hc⟩
theorem updR_any (s : Nat) (hs : s < 4294967296) (a : Option Addr) (l : List UInt8) (c : Nat) (w : World) (hr : Rd w a (bts l)) (hl : l.length < 2 ^ 60) :
 Calls Tryz.prog 90 #[.int .u32 (s : Nat), .slice a l.length c] w fun e w' => e = .returned (.int .u32 (crcU s l : Nat)) ∧ w = w' := by
 have HR := Hi hr
 have HX := Hi (u32_xor_nat s 4294967295 hs (by decide))
 have hx : s ^^^ 4294967295 < 4294967296 := Nat.xor_lt_two_pow (n := 32) hs (by decide)
 obtain ⟨x, hxe⟩ : ∃ x, x = s ^^^ 4294967295 := ⟨_, rfl⟩
 have HE : Hid (crcU s l = crcT x l ^^^ 4294967295) := Hi (by rw [hxe]; rfl)
 rw [← hxe] at hx HX
 clear hxe hr
 generalize crcU s l = z at *
 go_enter Tryz.func90, Tryz.ntmps90
 go_wp2_with fail
 rw [show bits .xor .u32 (s : Int) 4294967295 = (x : Int) from HX.out]
 go_loopw [5, 6] (fun rv iv wr => ∃ k : Nat, iv = .int .i64 k ∧ k ≤ l.length ∧ rv = .int .u32 (crcT x (l.take k) : Nat) ∧ wr = w) (fun _ iv _ => l.length - (intOf iv).toNat)
 case atStart => exact ⟨0, rfl, by omega, rfl, rfl⟩
 case round =>
  obtain ⟨k, rfl, hk, rfl, hww⟩ := hrel
  obtain rfl : w = wr := hww.symm
  clear hww
  have hlt : crcT x (l.take k) < 4294967296 := crcT_lt hx
  by_cases h8 : k < l.length
  ·obtain ⟨b, o, rfl, x0⟩ := byte_cell HR.out h8
   have htk : l.take (k + 1) = l.take k ++ [l[k]] := List.take_succ_eq_append_getElem h8
   have HSX : Hid (crcT x (l.take (k + 1)) = takeN (crcT x (l.take k)) l[k]) := Hi (by rw [htk, crcT_snoc])
   clear htk
   generalize crcT x (l.take k) = y at *
   generalize l[k] = d at *
   go_wp2_with (go_at_call 104; refine (takeR_any y d hlt w).mono ?_; rintro e w' ⟨rfl, rfl⟩)
   go_roundw
   case rel => exact ⟨k + 1, by go_num, h8, by rw [HSX.out], trivial⟩
   case measure => simp [intOf]; omega
  ·obtain rfl : k = l.length := by omega
   rw [List.take_length] at hlt
   rw [List.take_length]
   have HX2 := Hi (u32_xor_nat (crcT x l) 4294967295 hlt (by decide))
   generalize crcT x l = y at *
   go_wp2_with fail
   go_ret
   exact ⟨ret_u32 (by rw [HE.out]; exact HX2.out), rfl⟩
theorem sumR_any (a : Option Addr) (l : List UInt8) (c : Nat) (w : World) (hr : Rd w a (bts l)) (hl : l.length < 2 ^ 60) :
 Calls Tryz.prog 57 #[.slice a l.length c] w fun e w' => e = .returned (.int .u32 (crcL l : Nat)) ∧ w = w' := by
 have H := Hi (updR_any 0 (by decide) a l c w hr hl)
 clear hr
 go_enter Tryz.func57, Tryz.ntmps57
 go_wp2_with (go_at_call 90; refine H.out.mono ?_; rintro e w' ⟨rfl, rfl⟩)
 go_ret
 exact ⟨rfl, rfl⟩
def tabA (k : Nat) : Array Value := ((List.range 16).map fun i => Value.int .u32 (if i < k then (step4 i : Nat) else (0 : Nat))).toArray
theorem tabA_size (k : Nat) : (tabA k).size = 16 := by simp [tabA]
theorem tabA_get (k i : Nat) (h : i < 16) : (tabA k)[i]? = some (.int .u32 (if i < k then (step4 i : Nat) else (0 : Nat))) := by
 unfold tabA
 rw [List.getElem?_toArray, List.getElem?_map, List.getElem?_range h]
 rfl
theorem tabA_set (k : Nat) (h : k < 16) : (tabA k).setIfInBounds k (.int .u32 (step4 k : Nat)) = tabA (k + 1) := by
 refine Array.ext (by simp [tabA_size]) fun i h1 h2 => ?_
 rw [Array.size_setIfInBounds, tabA_size] at h1
 have e1 := tabA_get k i h1
 have e2 := tabA_get (k + 1) i h1
 rw [Array.getElem?_eq_getElem (by rw [tabA_size]; exact h1)] at e1
 rw [Array.getElem?_eq_getElem (by rw [tabA_size]; exact h1)] at e2
 rw [Array.getElem_setIfInBounds (by rw [tabA_size]; exact h1)]
 rw [Option.some.inj e2]
 by_cases hi : k = i
 ·subst hi
  rw [if_pos rfl, if_pos (by omega)]
 ·rw [if_neg hi, Option.some.inj e1]
  by_cases hk : i < k
  ·rw [if_pos hk, if_pos (by omega)]
  ·rw [if_neg hk, if_neg (by omega)]
theorem takeP_any (r : Nat) (hr0 : r < 4294967296) (a : Option Addr) (l : List UInt8) (c : Nat) (w : World) (hr : Rd w a (bts l)) (hl : l.length < 2 ^ 60) :
 Calls Tryz.prog 105 #[.int .u32 (r : Nat), .slice a l.length c] w fun e w' => e = .returned (.int .u32 (crcT r l : Nat)) ∧ Mod (fun _ => False) w w' := by
 have HR := Hi hr
 clear hr
 go_enter Tryz.func105, Tryz.ntmps105
 go_wp2_with fail
 have h0 : (w.alloc (.cells (tabA 0) 177)).heap[w.heap.size]? = some (.cells (tabA 0) 177 (0, 0)) := heap_alloc_new w _
 have H0 := Hi h0
 have M0 : Hid (Mod (fun _ => False) w (w.alloc (.cells (tabA 0) 177))) := Hi ((Mod.refl _ w).alloc _)
 obtain ⟨wa, hwa⟩ : ∃ wa, wa = w.alloc (.cells (tabA 0) 177) := ⟨_, rfl⟩
 rw [← hwa] at H0 M0
 have e0 : w.alloc (.cells #[.int .u32 0, .int .u32 0, .int .u32 0, .int .u32 0, .int .u32 0, .int .u32 0, .int .u32 0, .int .u32 0, .int .u32 0, .int .u32 0, .int .u32 0, .int .u32 0, .int .u32 0, .int .u32 0, .int .u32 0, .int .u32 0] 177) = wa := by rw [hwa]; rfl
 rw [e0]
 clear e0 hwa h0
 obtain ⟨B, hB⟩ : ∃ B, B = w.heap.size := ⟨_, rfl⟩
 rw [← hB] at H0 ⊢
 have HBB := Hi hB
 clear hB
 go_loopw [6, 9] (fun _ iv wr => ∃ k : Nat, iv = .int .i64 k ∧ k ≤ 16 ∧ Hid (wr.heap[B]? = some (.cells (tabA k) 177 (0, 0))) ∧ Hid (Mod (fun _ => False) w wr)) (fun _ iv _ => 16 - (intOf iv).toNat)
 case atStart => exact ⟨0, rfl, by omega, H0, M0⟩
 case round =>
  clear H0 M0
  obtain ⟨k, rfl, hk, hH, hM⟩ := hrel
  by_cases h8 : k < 16
  ·have hf := frozen_at (j := k) hH.out
   have hc := cell_at (j := k) hH.out (tabA_get k k h8)
   have hw : IntKind.u32.wrap (k : Int) = (k : Int) := by rw [IntKind.wrap_u32]; omega
   have k0 : k < 4294967296 := by omega
   have k1 := stepN_lt k0
   have k2 := stepN_lt k1
   have k3 := stepN_lt k2
   have HS : Hid (stepN (stepN (stepN (stepN k))) = step4 k) := Hi rfl
   generalize hy1 : stepN k = y1 at *
   generalize hy2 : stepN y1 = y2 at *
   generalize hy3 : stepN y2 = y3 at *
   have G1 := Hi (stepP_any k k0 wr); have G2 := Hi (stepP_any y1 k1 wr); have G3 := Hi (stepP_any y2 k2 wr); have G4 := Hi (stepP_any y3 k3 wr)
   rw [hy1] at G1
   rw [hy2] at G2
   rw [hy3] at G3
   rw [HS.out] at G4
   clear hy1 hy2 hy3 k1 k2 k3
   generalize hz : step4 k = z at *
   have HZ := Hi hz
   clear hz HS
   go_wp2_with fail
   refine G1.out.mono ?_
   rintro e w' ⟨rfl, rfl⟩
   go_wp2_with fail
   refine G2.out.mono ?_
   rintro e w' ⟨rfl, rfl⟩
   go_wp2_with fail
   refine G3.out.mono ?_
   rintro e w' ⟨rfl, rfl⟩
   go_wp2_with fail
   refine G4.out.mono ?_
   rintro e w' ⟨rfl, rfl⟩
   go_wp2_with fail
   have hs := heap_setCell_at (j := k) (.int .u32 (z : Nat)) hH.out
   have HS2 : Hid ((wr.setCell ⟨B, k, none⟩ (.int .u32 (z : Nat))).heap[B]? = some (.cells (tabA (k + 1)) 177 (0, 0))) := Hi (by rw [hs, ← HZ.out, tabA_set k h8])
   have HM2 : Hid (Mod (fun _ => False) w (wr.setCell ⟨B, k, none⟩ (.int .u32 (z : Nat)))) := Hi (hM.out.setCell (p := ⟨B, k, none⟩) (fun h => by have := HBB.out; exact absurd h (by show ¬ B < w.heap.size; omega)) _)
   go_roundw
   case rel => exact ⟨k + 1, by go_num, h8, HS2, HM2⟩
   case measure => simp [intOf]; omega
  ·obtain rfl : k = 16 := by omega
   clear h8
   have HMW := Hi hM.out
   have HH := Hi hH.out
   clear hM hH
   rename World => wq
   rw [show ((16 : Nat) : Int) = 16 from rfl]
   go_wp2_with fail
   go_loopw [0, 8, 23] (fun rv _ iv wr => ∃ k : Nat, iv = .int .i64 k ∧ k ≤ l.length ∧ rv = .int .u32 (crcT r (l.take k) : Nat) ∧ wr = wq) (fun _ _ iv _ => l.length - (intOf iv).toNat)
   case atStart => exact ⟨0, rfl, by omega, rfl, rfl⟩
   case round =>
    obtain ⟨k, rfl, hk, rfl, hww⟩ := hrel
    obtain rfl : wq = wr := hww.symm
    clear hww
    have hy : crcT r (l.take k) < 4294967296 := crcT_lt hr0
    by_cases h8 : k < l.length
    ·obtain ⟨b, o, rfl, c0⟩ := byte_cell (HR.out.mod HMW.out (fun _ _ => id)) h8
     have htk : l.take (k + 1) = l.take k ++ [l[k]] := List.take_succ_eq_append_getElem h8
     have HSX : Hid (crcT r (l.take (k + 1)) = takeN (crcT r (l.take k)) l[k]) := Hi (by rw [htk, crcT_snoc])
     clear htk
     generalize crcT r (l.take k) = y at *
     have hm : l[k].toNat < 256 := l[k].toNat_lt
     have HT : Hid (takeN y l[k] = step4 (step4 (y ^^^ l[k].toNat))) := Hi rfl
     generalize l[k].toNat = m at *
     have hx0 := u32_xor_nat y m hy (by omega)
     have hl0 : y ^^^ m < 4294967296 := Nat.xor_lt_two_pow (n := 32) hy (by omega)
     generalize y ^^^ m = x0 at *
     have h15 := and15 x0 hl0
     have hl1 := step4_lt hl0
     have t0 := cell_at (j := x0 % 16) HH.out (tabA_get 16 (x0 % 16) (by omega))
     rw [if_pos (by omega)] at t0
     have hs0 := step4_half x0
     have hx1 := u32_xor_nat (x0 / 16) (step4 (x0 % 16)) (by omega) (step4_lt (by omega))
     rw [← hs0, show ((x0 / 16 : Nat) : Int) = (x0 : Int) / 16 by omega] at hx1
     clear hs0
     generalize step4 (x0 % 16) = s0 at *
     generalize step4 x0 = x1 at *
     have h25 := and15 x1 hl1
     have t1 := cell_at (j := x1 % 16) HH.out (tabA_get 16 (x1 % 16) (by omega))
     rw [if_pos (by omega)] at t1
     have hs1 := step4_half x1
     have hx2 := u32_xor_nat (x1 / 16) (step4 (x1 % 16)) (by omega) (step4_lt (by omega))
     rw [← hs1, show ((x1 / 16 : Nat) : Int) = (x1 : Int) / 16 by omega] at hx2
     clear hs1
     generalize step4 (x1 % 16) = s1 at *
     have HX2 := Hi (HSX.out.trans HT.out)
     clear HSX HT
     generalize step4 x1 = x2 at *
     go_wp2_with fail
     go_roundw
     case rel => exact ⟨k + 1, by go_num, h8, by rw [HX2.out], trivial⟩
     case measure => simp [intOf]; omega
    ·obtain rfl : k = l.length := by omega
     rw [List.take_length] at hy
     rw [List.take_length]
     go_wp2_with fail
     go_ret
     exact ⟨rfl, HMW.out⟩
end Go.Proofs.YtjoiaejbahdjkaaGreat
