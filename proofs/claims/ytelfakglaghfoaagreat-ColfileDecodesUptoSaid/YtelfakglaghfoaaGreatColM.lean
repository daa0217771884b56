/-
  The program's columns: steps, sums; two of the sizes: walked.
-/
import Derived.Test.YtelfakglaghfoaaGreatColR2
namespace Go.Proofs.YtelfakglaghfoaaGreat
open Go Go.RowKit Go.Mine
set_option linter.unusedVariables false
set_option maxHeartbeats 4000000
set_option maxRecDepth 100000

theorem stepC_any (a : Option Addr) (d : Nat) (c : List Nat) (k : Nat) (w : World) (hr : Rd w a (u32s c)) (hu : U32 c) (hk : k < c.length) (hn : c.length < 2 ^ 32) :
    Calls Tryz.prog 92 #[.slice a c.length d, .int .i64 (k : Nat)] w fun e w' => e = .returned (.int .u64 (stepL c k : Nat)) ∧ Mod (fun _ => False) w w' := by
  by_cases hk0 : k = 0
  · subst hk0
    obtain ⟨b, o, rfl, x0⟩ := u32_cell hr hk
    have hx := hu _ (List.getElem_mem hk)
    have HST : Hid (stepL c 0 = c[0]) := Lib.hid (by unfold stepL; rw [if_pos rfl, getD_at hk])
    rw [Nat.add_zero] at x0
    rw [HST.out, show ((0 : Nat) : Int) = 0 from rfl]
    clear hr hu
    generalize c[0] = x at *
    go_enter Tryz.func92, Tryz.ntmps92
    go_wp2_with fail
    go_ret
    exact ⟨rfl, Mod.refl _ _⟩
  · obtain ⟨b, o, rfl, x0⟩ := u32_cell hr hk
    obtain ⟨b', o', e', y0⟩ := u32_cell hr (i := k - 1) (by omega)
    cases e'
    have hx := hu _ (List.getElem_mem hk)
    have hy := hu _ (List.getElem_mem (show k - 1 < c.length by omega))
    have HST : Hid (stepL c k = turnN ((c[k] : Int) - c[k - 1])) := Lib.hid (by unfold stepL; rw [if_neg hk0, getD_at hk, getD_at (show k - 1 < c.length by omega)])
    rw [HST.out]
    clear hr hu
    generalize c[k] = x at *
    generalize c[k - 1] = y at *
    have hkn : ((k : Int) - 1).toNat = k - 1 := by omega
    have hk1 : 0 < k := by omega
    have hkb : ((k : Int) == 0) = false := by simp; omega
    go_enter Tryz.func92, Tryz.ntmps92
    go_wp2_with fail
    refine wp_region_ord (fun w' => w'.cell? ⟨b, o + k, none⟩ = some (.int .u32 (x : Nat)) ∧ w'.cell? ⟨b, o + (k - 1), none⟩ = some (.int .u32 (y : Nat))) [(0, 0), (0, 1), (0, 2), (1, 3), (0, 4), (0, 5), (0, 6), (0, 7), (0, 8), (1, 9), (0, 10), (0, 11), (3, 12), (0, 13)] (by kernel_rfl) (by kernel_rfl) ?_
    go_wp2_with (first
      | (refine ord_pure rfl rfl rfl (fun K hK => ?_); go_big_quiet_op; refine hK _ ?_; clear hK K)
                                                                | (refine ord_skip rfl rfl ?_; simp only [Act.put, List.setIfInBounds_toArray, List.set_cons_zero, List.set_cons_succ])
                                                                | (refine ord_held rfl rfl rfl (⟨x0, y0⟩) (fun K hK => ?_); apply Exists.intro; refine ⟨fun w' hs => ?_, hK _ ?_⟩; (revert hs; dsimp only; (try simp only [and_imp]); intros; go_simp; rfl); clear hK K)
                                                                | (refine ord_keep rfl rfl (⟨x0, y0⟩) (fun K hK => ?_))
                                                                | (refine ord_drop rfl rfl (fun K hK => ?_))
                                                                | (refine ord_nil ?_))
    refine (turnP_any ((x : Int) - y) (by omega) (by omega) _).mono ?_
    rintro e w2 ⟨rfl, hw2⟩
    have HM : Hid (Mod (fun _ => False) w w2) := Lib.hid (by rw [← hw2]; exact (Mod.refl _ w).drew)
    clear hw2
    go_wp2_with (first
      | (refine ord_pure rfl rfl rfl (fun K hK => ?_); go_big_quiet_op; refine hK _ ?_; clear hK K)
                                                                | (refine ord_skip rfl rfl ?_; simp only [Act.put, List.setIfInBounds_toArray, List.set_cons_zero, List.set_cons_succ])
                                                                | (refine ord_held rfl rfl rfl (trivial) (fun K hK => ?_); apply Exists.intro; refine ⟨fun w' hs => ?_, hK _ ?_⟩; (revert hs; dsimp only; (try simp only [and_imp]); intros; go_simp; rfl); clear hK K)
                                                                | (refine ord_keep rfl rfl (trivial) (fun K hK => ?_))
                                                                | (refine ord_drop rfl rfl (fun K hK => ?_))
                                                                | (refine ord_nil ?_))
    go_ret
    exact ⟨rfl, HM.out⟩
/-- the box of a column -/
def CBox (w : World) (bx : Nat) (a : Option Addr) (d : Nat) (c : List Nat) : Prop := w.cell? ⟨bx, 0, none⟩ = some (.slice a c.length d) ∧ Rd w a (u32s c)
theorem CBox.mod0 {w w' : World} {bx : Nat} {a : Option Addr} {d : Nat} {c : List Nat} (h : CBox w bx a d c) (m : Mod (fun _ => False) w w') : CBox w' bx a d c := ⟨m.cell h.1 id, h.2.mod m (fun _ _ => id)⟩
theorem sz1_any (bx : Nat) (a : Option Addr) (d : Nat) (c : List Nat) (k : Nat) (w : World) (h : CBox w bx a d c) (hu : U32 c) (hk : k < c.length) (hn : c.length < 2 ^ 32) :
    Calls Tryz.prog 85 #[.int .i64 (k : Nat), .pointer (some ⟨bx, 0, none⟩)] w fun e w' => e = .returned (.int .i64 ((lebl (c.getD k 0)).length : Nat)) ∧ Mod (fun _ => False) w w' := by
  obtain ⟨c0, hr⟩ := h
  obtain ⟨b, o, rfl, x0⟩ := u32_cell hr hk
  have hx := hu _ (List.getElem_mem hk)
  rw [getD_at hk]
  clear hr hu
  generalize c[k] = x at *
  have HS := Lib.hid (size_any x (by omega) w)
  generalize (lebl x).length = z at *
  go_enter Tryz.func85, Tryz.ntmps85
  go_wp2_with fail
  refine HS.out.mono ?_
  rintro e w' ⟨rfl, hw⟩
  obtain rfl : w = w' := hw
  go_wp2_with fail
  go_ret
  exact ⟨rfl, Mod.refl _ _⟩
theorem sz2_any (bx : Nat) (a : Option Addr) (d : Nat) (c : List Nat) (k : Nat) (w : World) (h : CBox w bx a d c) (hu : U32 c) (hk : k < c.length) (hn : c.length < 2 ^ 32) :
    Calls Tryz.prog 91 #[.int .i64 (k : Nat), .pointer (some ⟨bx, 0, none⟩)] w fun e w' => e = .returned (.int .i64 ((lebl (stepL c k)).length : Nat)) ∧ Mod (fun _ => False) w w' := by
  obtain ⟨c0, hr⟩ := h
  have HST := Lib.hid (stepC_any a d c k w hr hu hk hn)
  have hsl := stepL_lt hu hk
  clear hr hu
  generalize stepL c k = x at *
  have HS := Lib.hid (fun W => size_any x (by omega) W)
  generalize (lebl x).length = z at *
  go_enter Tryz.func91, Tryz.ntmps91
  go_wp2_with fail
  refine HST.out.mono ?_
  rintro e w1 ⟨rfl, hm⟩
  go_wp2_with fail
  refine (HS.out w1).mono ?_
  rintro e w' ⟨rfl, hw⟩
  obtain rfl : w1 = w' := hw
  go_wp2_with fail
  go_ret
  exact ⟨rfl, hm⟩
def sumTo (f : Nat → Nat) (k : Nat) : Nat := ((List.range k).map f).sum
theorem sumTo_succ (f : Nat → Nat) (k : Nat) : sumTo f (k + 1) = sumTo f k + f k := by unfold sumTo; rw [List.range_succ, List.map_append, List.sum_append]; simp
theorem sumTo_le (f : Nat → Nat) (m : Nat) (hf : ∀ k, f k ≤ m) : ∀ k, sumTo f k ≤ m * k
  | 0 => by simp [sumTo]
  | k + 1 => by rw [sumTo_succ]; have h1 := hf k; have h2 := sumTo_le f m hf k; rw [Nat.mul_add]; omega
theorem sum1_any (bx : Nat) (a : Option Addr) (d : Nat) (c : List Nat) (f : Nat → Nat) (w : World) (hn : c.length < 2 ^ 32) (hf : ∀ k, f k ≤ 20)
    (hc : ∀ k, k < c.length → ∀ W, Mod (fun _ => False) w W → Calls Tryz.prog 85 #[.int .i64 (k : Nat), .pointer (some ⟨bx, 0, none⟩)] W fun e w' => e = .returned (.int .i64 (f k : Nat)) ∧ Mod (fun _ => False) W w') :
    Calls Tryz.prog 84 #[.slice a c.length d, .func (.func 85) #[] #[.pointer (some ⟨bx, 0, none⟩)]] w fun e w' => e = .returned (.int .i64 (sumTo f c.length : Nat)) ∧ Mod (fun _ => False) w w' := by
  have HC := Lib.hid hc; have HF := Lib.hid hf
  clear hc hf
  go_enter Tryz.func84, Tryz.ntmps84
  go_wp2_with fail
  go_loopw [5, 6, 9] (fun nv _ iv wr => ∃ k : Nat, iv = .int .i64 k ∧ k ≤ c.length ∧ nv = .int .i64 (sumTo f k : Nat) ∧ Hid (Mod (fun _ => False) w wr)) (fun _ _ iv _ => c.length - (intOf iv).toNat)
  case atStart => exact ⟨0, rfl, Nat.zero_le _, rfl, Lib.hid (Mod.refl _ _)⟩
  case round =>
    obtain ⟨k, rfl, hk, rfl, hm⟩ := hrel
    by_cases hlt : k < c.length
    · have HSS := Lib.hid (sumTo_succ f k)
      have hle := sumTo_le f 20 HF.out k
      have hfk := HF.out k
      have HK := Lib.hid (HC.out k hlt wr hm.out)
      generalize sumTo f k = s at *
      generalize f k = z at *
      go_wp2_with fail
      refine HK.out.mono ?_
      rintro e w1 ⟨rfl, hm1⟩
      have HM1 := Lib.hid (hm.out.trans hm1)
      clear hm1 HK
      go_wp2_with fail
      go_roundw
      case rel => exact ⟨k + 1, by go_num, hlt, by rw [HSS.out]; go_num, HM1⟩
      case measure => simp [intOf]; omega
    · obtain rfl : k = c.length := by omega
      go_wp2_with fail
      go_ret
      exact ⟨rfl, hm.out⟩
theorem sum2_any (bx : Nat) (a : Option Addr) (d : Nat) (c : List Nat) (f : Nat → Nat) (w : World) (hn : c.length < 2 ^ 32) (hf : ∀ k, f k ≤ 20)
    (hc : ∀ k, k < c.length → ∀ W, Mod (fun _ => False) w W → Calls Tryz.prog 91 #[.int .i64 (k : Nat), .pointer (some ⟨bx, 0, none⟩)] W fun e w' => e = .returned (.int .i64 (f k : Nat)) ∧ Mod (fun _ => False) W w') :
    Calls Tryz.prog 84 #[.slice a c.length d, .func (.func 91) #[] #[.pointer (some ⟨bx, 0, none⟩)]] w fun e w' => e = .returned (.int .i64 (sumTo f c.length : Nat)) ∧ Mod (fun _ => False) w w' := by
  have HC := Lib.hid hc; have HF := Lib.hid hf
  clear hc hf
  go_enter Tryz.func84, Tryz.ntmps84
  go_wp2_with fail
  go_loopw [5, 6, 9] (fun nv _ iv wr => ∃ k : Nat, iv = .int .i64 k ∧ k ≤ c.length ∧ nv = .int .i64 (sumTo f k : Nat) ∧ Hid (Mod (fun _ => False) w wr)) (fun _ _ iv _ => c.length - (intOf iv).toNat)
  case atStart => exact ⟨0, rfl, Nat.zero_le _, rfl, Lib.hid (Mod.refl _ _)⟩
  case round =>
    obtain ⟨k, rfl, hk, rfl, hm⟩ := hrel
    by_cases hlt : k < c.length
    · have HSS := Lib.hid (sumTo_succ f k)
      have hle := sumTo_le f 20 HF.out k
      have hfk := HF.out k
      have HK := Lib.hid (HC.out k hlt wr hm.out)
      generalize sumTo f k = s at *
      generalize f k = z at *
      go_wp2_with fail
      refine HK.out.mono ?_
      rintro e w1 ⟨rfl, hm1⟩
      have HM1 := Lib.hid (hm.out.trans hm1)
      clear hm1 HK
      go_wp2_with fail
      go_roundw
      case rel => exact ⟨k + 1, by go_num, hlt, by rw [HSS.out]; go_num, HM1⟩
      case measure => simp [intOf]; omega
    · obtain rfl : k = c.length := by omega
      go_wp2_with fail
      go_ret
      exact ⟨rfl, hm.out⟩
theorem layP_sum (c : List Nat) : sumTo (fun k => (lebl (c.getD k 0)).length) c.length = (layP c).length := by
  have key : ∀ k, k ≤ c.length → sumTo (fun k => (lebl (c.getD k 0)).length) k = (layP (c.take k)).length := fun k => by
    induction k with
    | zero => intro _; rfl
    | succ k ih =>
      intro hk
      rw [sumTo_succ, ih (by omega), List.take_succ_eq_append_getElem (by omega)]
      unfold layP
      rw [List.flatMap_append, List.flatMap_singleton, List.length_append, getD_at (by omega)]
  rw [key _ (Nat.le_refl _), List.take_length]
theorem layD_sum (c : List Nat) : sumTo (fun k => (lebl (stepL c k)).length) c.length = (layD c).length := by
  have key : ∀ k, k ≤ c.length → sumTo (fun k => (lebl (stepL c k)).length) k = (layD (c.take k)).length := fun k => by
    induction k with
    | zero => intro _; rfl
    | succ k ih =>
      intro hk
      rw [sumTo_succ, ih (by omega), layD_snoc c k (by omega), List.length_append]
  rw [key _ (Nat.le_refl _), List.take_length]
end Go.Proofs.YtelfakglaghfoaaGreat
