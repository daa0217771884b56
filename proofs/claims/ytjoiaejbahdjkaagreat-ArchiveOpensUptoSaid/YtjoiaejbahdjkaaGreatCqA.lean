/-
  The program's columns: steps, sums; two of the sizes: walked.
-/
import Derived.Test.YtjoiaejbahdjkaaGreatCqE
import Derived.Test.YtjoiaejbahdjkaaGreatWriter
namespace Go.Proofs.YtjoiaejbahdjkaaGreat
open Go Go.RowKit Go.Mine
set_option linter.unusedVariables false
set_option maxHeartbeats 4000000
set_option maxRecDepth 100000
theorem stepC_any (a : Option Addr) (d : Nat) (c : List Nat) (k : Nat) (w : World) (hr : Rd w a (u32s c)) (hu : U32 c) (hk : k < c.length) (hn : c.length < 2 ^ 32) :
 Calls Tryz.prog 176 #[.slice a c.length d, .int .i64 (k : Nat)] w fun e w' => e = .returned (.int .u64 (stepL c k : Nat)) ∧ Mod (fun _ => False) w w' := by
 by_cases hk0 : k = 0
 ·subst hk0
  obtain ⟨b, o, rfl, x0⟩ := u32_cell hr hk
  have hx := hu _ (List.getElem_mem hk)
  have HST : Hid (stepL c 0 = c[0]) := Hi (by unfold stepL; rw [if_pos rfl, getD_at hk])
  rw [Nat.add_zero] at x0
  rw [HST.out, show ((0 : Nat) : Int) = 0 from rfl]
  clear hr hu
  generalize c[0] = x at *
  go_enter Tryz.func176, Tryz.ntmps176
  go_wp2_with fail
  go_ret
  exact ⟨rfl, Mod.refl _ _⟩
 ·obtain ⟨b, o, rfl, x0⟩ := u32_cell hr hk
  obtain ⟨b', o', e', y0⟩ := u32_cell hr (i := k - 1) (by omega)
  cases e'
  have hx := hu _ (List.getElem_mem hk)
  have hy := hu _ (List.getElem_mem (show k - 1 < c.length by omega))
  have HST : Hid (stepL c k = turnN ((c[k] : Int) - c[k - 1])) := Hi (by unfold stepL; rw [if_neg hk0, getD_at hk, getD_at (show k - 1 < c.length by omega)])
  rw [HST.out]
  clear hr hu
  generalize c[k] = x at *
  generalize c[k - 1] = y at *
  have hkn : ((k : Int) - 1).toNat = k - 1 := by omega
  have hk1 : 0 < k := by omega
  have hkb : ((k : Int) == 0) = false := by simp; omega
  go_enter Tryz.func176, Tryz.ntmps176
  go_wp2_with fail
  refine wp_region_ord (fun w' => w'.cell? ⟨b, o + k, none⟩ = some (.int .u32 (x : Nat)) ∧ w'.cell? ⟨b, o + (k - 1), none⟩ = some (.int .u32 (y : Nat))) [(0, 0), (0, 1), (0, 2), (1, 3), (0, 4), (0, 5), (0, 6), (0, 7), (0, 8), (1, 9), (0, 10), (0, 11), (3, 12), (0, 13)] (by kernel_rfl) (by kernel_rfl) ?_
  go_wp2_with (first
   |(refine ord_pure rfl rfl rfl (fun K hK => ?_); go_big_quiet_op; refine hK _ ?_; clear hK K)
   |(refine ord_held rfl rfl rfl (⟨x0, y0⟩) (fun K hK => ?_); apply Exists.intro; refine ⟨fun w' hs => ?_, hK _ ?_⟩; (revert hs; dsimp only; (try simp only [and_imp]); intros; go_simp; rfl); clear hK K)
   |(refine ord_drop rfl rfl (fun K hK => ?_))
   |(refine ord_nil ?_))
  refine (turnP_any ((x : Int) - y) (by omega) (by omega) _).mono ?_
  rintro e w2 ⟨rfl, hw2⟩
  have HM : Hid (Mod (fun _ => False) w w2) := Hi (by rw [← hw2]; exact (Mod.refl _ w).drew)
  clear hw2
  go_wp2_with (first
   |(refine ord_pure rfl rfl rfl (fun K hK => ?_); go_big_quiet_op; refine hK _ ?_; clear hK K)
   |(refine ord_held rfl rfl rfl (trivial) (fun K hK => ?_); apply Exists.intro; refine ⟨fun w' hs => ?_, hK _ ?_⟩; (revert hs; dsimp only; (try simp only [and_imp]); intros; go_simp; rfl); clear hK K)
   |(refine ord_drop rfl rfl (fun K hK => ?_))
   |(refine ord_nil ?_))
  go_ret
  exact ⟨rfl, HM.out⟩
def CBox (w : World) (bx : Nat) (a : Option Addr) (d : Nat) (c : List Nat) : Prop := w.cell? ⟨bx, 0, none⟩ = some (.slice a c.length d) ∧ Rd w a (u32s c)
theorem CBox.mod0 {w w' : World} {bx : Nat} {a : Option Addr} {d : Nat} {c : List Nat} (h : CBox w bx a d c) (m : Mod (fun _ => False) w w') : CBox w' bx a d c := ⟨m.cell h.1 id, h.2.mod m (fun _ _ => id)⟩
theorem sz1_any (bx : Nat) (a : Option Addr) (d : Nat) (c : List Nat) (k : Nat) (w : World) (h : CBox w bx a d c) (hu : U32 c) (hk : k < c.length) (hn : c.length < 2 ^ 32) :
 Calls Tryz.prog 170 #[.int .i64 (k : Nat), .pointer (some ⟨bx, 0, none⟩)] w fun e w' => e = .returned (.int .i64 ((lebl (c.getD k 0)).length : Nat)) ∧ Mod (fun _ => False) w w' := by
 obtain ⟨c0, hr⟩ := h
 obtain ⟨b, o, rfl, x0⟩ := u32_cell hr hk
 have hx := hu _ (List.getElem_mem hk)
 rw [getD_at hk]
 clear hr hu
 generalize c[k] = x at *
 have HS := Hi (size_any x (by omega) w)
 generalize (lebl x).length = z at *
 go_enter Tryz.func170, Tryz.ntmps170
 go_wp2_with fail
 refine HS.out.mono ?_
 rintro e w' ⟨rfl, hw⟩
 obtain rfl : w = w' := hw
 go_wp2_with fail
 go_ret
 exact ⟨rfl, Mod.refl _ _⟩
theorem sz2_any (bx : Nat) (a : Option Addr) (d : Nat) (c : List Nat) (k : Nat) (w : World) (h : CBox w bx a d c) (hu : U32 c) (hk : k < c.length) (hn : c.length < 2 ^ 32) :
 Calls Tryz.prog 175 #[.int .i64 (k : Nat), .pointer (some ⟨bx, 0, none⟩)] w fun e w' => e = .returned (.int .i64 ((lebl (stepL c k)).length : Nat)) ∧ Mod (fun _ => False) w w' := by
 obtain ⟨c0, hr⟩ := h
 have HST := Hi (stepC_any a d c k w hr hu hk hn)
 have hsl := stepL_lt hu hk
 clear hr hu
 generalize stepL c k = x at *
 have HS := Hi (fun W => size_any x (by omega) W)
 generalize (lebl x).length = z at *
 go_enter Tryz.func175, Tryz.ntmps175
 go_wp2_with fail
 refine HST.out.mono ?_
 rintro e w1 ⟨rfl, hm⟩
 go_wp2_with fail
 refine (HS.out w1).mono ?_
 rintro e w' ⟨rfl, hw⟩
 obtain rfl : w1 = w' := hw
 go_wp2_with fail
 go_ret
 exact ⟨rfl, hm⟩
def sumTo (f : Nat → Nat) (k : Nat) : Nat := ((List.range k).map f).sum
theorem sumTo_succ (f : Nat → Nat) (k : Nat) : sumTo f (k + 1) = sumTo f k + f k := by unfold sumTo; rw [List.range_succ, List.map_append, List.sum_append]; simp
theorem sumTo_le (f : Nat → Nat) (m : Nat) (hf : ∀ k, f k ≤ m) : ∀ k, sumTo f k ≤ m * k
 | 0 => by simp [sumTo]
 | k + 1 => by rw [sumTo_succ]; have h1 := hf k; have h2 := sumTo_le f m hf k; rw [Nat.mul_add]; omega
theorem sum1_any (bx : Nat) (a : Option Addr) (d : Nat) (c : List Nat) (f : Nat → Nat) (w : World) (hn : c.length < 2 ^ 32) (hf : ∀ k, f k ≤ 20)
 (hc : ∀ k, k < c.length → ∀ W, Mod (fun _ => False) w W → Calls Tryz.prog 170 #[.int .i64 (k : Nat), .pointer (some ⟨bx, 0, none⟩)] W fun e w' => e = .returned (.int .i64 (f k : Nat)) ∧ Mod (fun _ => False) W w') :
 Calls Tryz.prog 169 #[.slice a c.length d, .func (.func 170) #[] #[.pointer (some ⟨bx, 0, none⟩)]] w fun e w' => e = .returned (.int .i64 (sumTo f c.length : Nat)) ∧ Mod (fun _ => False) w w' := by
 have HC := Hi hc; have HF := Hi hf
 clear hc hf
 go_enter Tryz.func169, Tryz.ntmps169
 go_wp2_with fail
 go_loopw [5, 6, 9] (fun nv _ iv wr => ∃ k : Nat, iv = .int .i64 k ∧ k ≤ c.length ∧ nv = .int .i64 (sumTo f k : Nat) ∧ Hid (Mod (fun _ => False) w wr)) (fun _ _ iv _ => c.length - (intOf iv).toNat)
 case atStart => exact ⟨0, rfl, Nat.zero_le _, rfl, Hi (Mod.refl _ _)⟩
 case round =>
  obtain ⟨k, rfl, hk, rfl, hm⟩ := hrel
  by_cases hlt : k < c.length
  ·have HSS := Hi (sumTo_succ f k)
   have hle := sumTo_le f 20 HF.out k
   have hfk := HF.out k
   have HK := Hi (HC.out k hlt wr hm.out)
   generalize sumTo f k = s at *
   generalize f k = z at *
   go_wp2_with fail
   refine HK.out.mono ?_
   rintro e w1 ⟨rfl, hm1⟩
   have HM1 := Hi (hm.out.trans hm1)
   clear hm1 HK
   go_wp2_with fail
   go_roundw
   case rel => exact ⟨k + 1, by go_num, hlt, by rw [HSS.out]; go_num, HM1⟩
   case measure => simp [intOf]; omega
  ·obtain rfl : k = c.length := by omega
   go_wp2_with fail
   go_ret
   exact ⟨rfl, hm.out⟩
theorem sum2_any (bx : Nat) (a : Option Addr) (d : Nat) (c : List Nat) (f : Nat → Nat) (w : World) (hn : c.length < 2 ^ 32) (hf : ∀ k, f k ≤ 20)
 (hc : ∀ k, k < c.length → ∀ W, Mod (fun _ => False) w W → Calls Tryz.prog 175 #[.int .i64 (k : Nat), .pointer (some ⟨bx, 0, none⟩)] W fun e w' => e = .returned (.int .i64 (f k : Nat)) ∧ Mod (fun _ => False) W w') :
 Calls Tryz.prog 169 #[.slice a c.length d, .func (.func 175) #[] #[.pointer (some ⟨bx, 0, none⟩)]] w fun e w' => e = .returned (.int .i64 (sumTo f c.length : Nat)) ∧ Mod (fun _ => False) w w' := by
 have HC := Hi hc; have HF := Hi hf
 clear hc hf
 go_enter Tryz.func169, Tryz.ntmps169
 go_wp2_with fail
 go_loopw [5, 6, 9] (fun nv _ iv wr => ∃ k : Nat, iv = .int .i64 k ∧ k ≤ c.length ∧ nv = .int .i64 (sumTo f k : Nat) ∧ Hid (Mod (fun _ => False) w wr)) (fun _ _ iv _ => c.length - (intOf iv).toNat)
 case atStart => exact ⟨0, rfl, Nat.zero_le _, rfl, Hi (Mod.refl _ _)⟩
 case round =>
  obtain ⟨k, rfl, hk, rfl, hm⟩ := hrel
  by_cases hlt : k < c.length
  ·have HSS := Hi (sumTo_succ f k)
   have hle := sumTo_le f 20 HF.out k
   have hfk := HF.out k
   have HK := Hi (HC.out k hlt wr hm.out)
   generalize sumTo f k = s at *
   generalize f k = z at *
   go_wp2_with fail
   refine HK.out.mono ?_
   rintro e w1 ⟨rfl, hm1⟩
   have HM1 := Hi (hm.out.trans hm1)
   clear hm1 HK
   go_wp2_with fail
   go_roundw
   case rel => exact ⟨k + 1, by go_num, hlt, by rw [HSS.out]; go_num, HM1⟩
   case measure => simp [intOf]; omega
  ·obtain rfl : k = c.length := by omega
   go_wp2_with fail
   go_ret
   exact ⟨rfl, hm.out⟩
theorem layP_sum (c : List Nat) : sumTo (fun k => (lebl (c.getD k 0)).length) c.length = (layP c).length := by
 have key : ∀ k, k ≤ c.length → sumTo (fun k => (lebl (c.getD k 0)).length) k = (layP (c.take k)).length := fun k => by
  induction k with
  | zero => intro _; rfl
  | succ k ih =>
    intro hk
    rw [sumTo_succ, ih (by omega), List.take_succ_eq_append_getElem (by omega)]
    unfold layP
    rw [List.flatMap_append, List.flatMap_singleton, List.length_append, getD_at (by omega)]
 rw [key _ (Nat.le_refl _), List.take_length]
theorem layD_sum (c : List Nat) : sumTo (fun k => (lebl (stepL c k)).length) c.length = (layD c).length := by
 have key : ∀ k, k ≤ c.length → sumTo (fun k => (lebl (stepL c k)).length) k = (layD (c.take k)).length := fun k => by
  induction k with
  | zero => intro _; rfl
  | succ k ih =>
    intro hk
    rw [sumTo_succ, ih (by omega), layD_snoc c k (by omega), List.length_append]
 rw [key _ (Nat.le_refl _), List.take_length]
end Go.Proofs.YtjoiaejbahdjkaaGreat
/-
  The program's columns: a writer of the call's own; two of the ways laid: walked.
-/
namespace Go.Proofs.YtjoiaejbahdjkaaGreat
open Go Go.RowKit Go.Mine
set_option linter.unusedVariables false
set_option maxHeartbeats 4000000
set_option maxRecDepth 100000
theorem raw_any (p : Nat) (a : Option Addr) (l ys : List UInt8) (av : Option Addr) (cv : Nat) (w : World) (hW : WrAt w p a l) (hr : Rd w av (bts ys)) (hl : l.length < 2 ^ 39) (hy : ys.length < 2 ^ 39) :
 Calls Tryz.prog 188 #[.pointer (some ⟨p, 0, none⟩), .slice av ys.length cv] w fun e w' => e = .returned (.tuple #[]) ∧ ∃ a', WrAt w' p a' (l ++ ys) ∧ WrGo w p a w' a' := by
 obtain ⟨hne, c1, hh, hO⟩ := hW
 have hc1 : w.cell? ⟨p, 0, none⟩ = some (.slice a l.length c1) := cell_at hh rfl
 have HH := Hi hh; have HO := Hi hO; have HNE := Hi hne; have HR := Hi hr
 clear hh hO hne hr
 go_enter Tryz.func188, Tryz.ntmps188
 go_wp2_with (first
  |(go_at_call 100; refine (wnone_any p _ _ _ HH.out).mono ?_; rintro e w' ⟨rfl, rfl⟩)
  |(at_builtin; refine wpL_append rfl (.tmp 11) (.tmp 12) 23 23 rfl ti24 rfl HO.out rfl (Src.ofRd ti24.ht _ _ HR.out (by simp) (bts_one _)) (by omega) (by unfold maxLen; omega) ?_; intro a2 c2 w2 hO2 hG2 _
    have hh2 := hG2.mod.at (p := p) HH.out (fun e => HNE.out e)
    have hc2 : w2.cell? ⟨p, 0, none⟩ = some (.slice a l.length c1) := cell_at hh2 rfl
    have hf2 : w2.frozen? ⟨p, 0, none⟩ = false := frozen_at hh2
    have HO2 := Hi hO2; have HG2 := Hi hG2; clear hO2 hG2 hh2))
 go_end0
 have hO2 := HO2.out
 rw [← bts_append, ← List.length_append] at hO2
 have hp := WrAt.put HNE.out HH.out hO2 HG2.out (n := l.length + ys.length) (by simp)
 exact ⟨rfl, a2, hp.1, hp.2⟩
def WrS (w0 w : World) (p : Nat) (l : List UInt8) : Prop := ∃ a, WrAt w p a l ∧ w0.heap.size ≤ p ∧ (∀ b, blk a = some b → w0.heap.size ≤ b) ∧ Mod (fun _ => False) w0 w
theorem WrS.md {w0 w : World} {p : Nat} {l : List UInt8} (h : WrS w0 w p l) : Mod (fun _ => False) w0 w := h.choose_spec.2.2.2
theorem WrS.mod0 {w0 w w' : World} {p : Nat} {l : List UInt8} (h : WrS w0 w p l) (m : Mod (fun _ => False) w w') : WrS w0 w' p l := by
 obtain ⟨a, h1, h2, h3, h4⟩ := h
 exact ⟨a, h1.mod m id (fun _ _ => id), h2, h3, h4.trans m⟩
theorem WrS.go {w0 w w' : World} {p : Nat} {a a' : Option Addr} {l' : List UInt8} (h2 : w0.heap.size ≤ p) (h3 : ∀ b, blk a = some b → w0.heap.size ≤ b) (h4 : Mod (fun _ => False) w0 w) (hA : WrAt w' p a' l') (hG : WrGo w p a w' a') : WrS w0 w' p l' := by
 refine ⟨a', hA, h2, fun b hb => ?_, h4.step hG.mod (fun b hb e => ?_)⟩
 ·rcases hG.pos with e | ⟨g, e, hg⟩
  ·rw [e] at hb; exact h3 b hb
  ·have := h4.size
   rw [e] at hb; cases hb; omega
 ·rcases e with rfl | e
  ·omega
  ·have := h3 b e; omega
theorem numS_any {w0 w : World} {p : Nat} {l : List UInt8} (h : WrS w0 w p l) (ns : List Nat) (hns : ∀ n ∈ ns, n < 2 ^ 64) (cv : Nat) (hl : l.length + 10 * ns.length < 2 ^ 40) :
 Calls Tryz.prog 83 #[.pointer (some ⟨p, 0, none⟩), .slice (some ⟨w.heap.size, 0, none⟩) ns.length cv] (w.alloc (.cells (u64s ns).toArray 66)) fun e w' => e = .returned (.tuple #[]) ∧ WrS w0 w' p (l ++ ns.flatMap lebl) := by
 obtain ⟨a, h1, h2, h3, h4⟩ := h
 have hlt : p < w.heap.size := (Array.getElem?_eq_some_iff.1 h1.2.choose_spec.1).1
 have hlta : ∀ b, blk a = some b → b < w.heap.size := h1.2.choose_spec.2.lt
 have m1 : Mod (fun _ => False) w (w.alloc (.cells (u64s ns).toArray 66)) := (Mod.refl _ w).alloc _
 refine (num_any p a l ns _ cv _ (h1.mod m1 id (fun _ _ => id)) (Rd.news w (u64s ns) 66) (fun e => by simp [blk] at e; omega) (fun b hb hh => by simp [blk] at hb; have := hlta b hh; omega) hns hl).mono ?_
 rintro e w' ⟨rfl, a', g1, g2⟩
 exact ⟨rfl, WrS.go h2 h3 (h4.trans m1) g1 g2⟩
theorem rawS_any {w0 w : World} {p : Nat} {l : List UInt8} (h : WrS w0 w p l) (ys : List UInt8) (av : Option Addr) (cv : Nat) (hr : Rd w av (bts ys)) (hl : l.length < 2 ^ 39) (hy : ys.length < 2 ^ 39) :
 Calls Tryz.prog 188 #[.pointer (some ⟨p, 0, none⟩), .slice av ys.length cv] w fun e w' => e = .returned (.tuple #[]) ∧ WrS w0 w' p (l ++ ys) := by
 obtain ⟨a, h1, h2, h3, h4⟩ := h
 refine (raw_any p a l ys av cv w h1 hr hl hy).mono ?_
 rintro e w' ⟨rfl, a', g1, g2⟩
 exact ⟨rfl, WrS.go h2 h3 h4 g1 g2⟩
theorem lay1_any {w0 w : World} {p : Nat} {l : List UInt8} (h : WrS w0 w p l) (a : Option Addr) (d : Nat) (c : List Nat) (hr : Rd w0 a (u32s c)) (hu : U32 c) (hn : c.length ≤ 65536) (hl : l.length < 100) :
 Calls Tryz.prog 172 #[.pointer (some ⟨p, 0, none⟩), .slice a c.length d] w fun e w' => e = .returned (.tuple #[]) ∧ WrS w0 w' p (l ++ layP c) := by
 have H := Hi h; have HR := Hi hr; have HU := Hi hu
 clear h hr hu
 go_enter Tryz.func172, Tryz.ntmps172
 go_wp2_with fail
 go_loopw [5, 8] (fun _ iv wr => ∃ k : Nat, iv = .int .i64 k ∧ k ≤ c.length ∧ Hid (WrS w0 wr p (l ++ layP (c.take k)))) (fun _ iv _ => c.length - (intOf iv).toNat)
 case atStart => exact ⟨0, rfl, Nat.zero_le _, Hi (by simpa [layP] using H.out)⟩
 case round =>
  obtain ⟨k, rfl, hk, hW⟩ := hrel
  by_cases hlt : k < c.length
  ·obtain ⟨b, o, rfl, x0⟩ := u32_cell (HR.out.mod hW.out.md (fun _ _ => id)) hlt
   have hx := HU.out _ (List.getElem_mem hlt)
   have htk : c.take (k + 1) = c.take k ++ [c[k]] := List.take_succ_eq_append_getElem hlt
   have HTK : Hid (layP (c.take (k + 1)) = layP (c.take k) ++ lebl c[k]) := Hi (by unfold layP; rw [htk, List.flatMap_append, List.flatMap_singleton])
   have hll : (layP (c.take k)).length ≤ 10 * c.length := by
    have := flat10 (c.take k) (fun n hn => by have := HU.out n (List.mem_of_mem_take hn); omega)
    unfold layP
    rw [List.length_take] at this
    omega
   clear htk
   generalize c[k] = x at *
   have HN := Hi (numS_any hW.out [x] (fun n hn => by simp at hn; omega) 1 (by simp only [List.length_append, List.length_cons, List.length_nil]; omega))
   go_wp2_with fail
   refine HN.out.mono ?_
   rintro e w2 ⟨rfl, h2⟩
   have H2 : Hid (WrS w0 w2 p (l ++ layP (c.take (k + 1)))) := Hi (by
    rw [HTK.out, ← List.append_assoc]
    simpa using h2)
   clear h2 HN
   go_wp2_with fail
   go_roundw
   case rel => exact ⟨k + 1, by go_num, hlt, H2⟩
   case measure => simp [intOf]; omega
  ·obtain rfl : k = c.length := by omega
   rw [List.take_length] at hW
   go_wp2_with fail
   go_end0
   exact ⟨rfl, hW.out⟩
theorem lay2_any {w0 w : World} {p : Nat} {l : List UInt8} (h : WrS w0 w p l) (a : Option Addr) (d : Nat) (c : List Nat) (hr : Rd w0 a (u32s c)) (hu : U32 c) (hn : c.length ≤ 65536) (hl : l.length < 100) :
 Calls Tryz.prog 177 #[.pointer (some ⟨p, 0, none⟩), .slice a c.length d] w fun e w' => e = .returned (.tuple #[]) ∧ WrS w0 w' p (l ++ layD c) := by
 have H := Hi h; have HR := Hi hr; have HU := Hi hu
 clear h hr hu
 go_enter Tryz.func177, Tryz.ntmps177
 go_wp2_with fail
 go_loopw [4, 7] (fun _ iv wr => ∃ k : Nat, iv = .int .i64 k ∧ k ≤ c.length ∧ Hid (WrS w0 wr p (l ++ layD (c.take k)))) (fun _ iv _ => c.length - (intOf iv).toNat)
 case atStart => exact ⟨0, rfl, Nat.zero_le _, Hi (by simpa [layD, dlt] using H.out)⟩
 case round =>
  obtain ⟨k, rfl, hk, hW⟩ := hrel
  by_cases hlt : k < c.length
  ·have HST := Hi (stepC_any a d c k wr (HR.out.mod hW.out.md (fun _ _ => id)) HU.out hlt (by omega))
   have HTK := Hi (layD_snoc c k hlt)
   have hx := stepL_lt HU.out hlt
   have hll : (layD (c.take k)).length ≤ 10 * c.length := by
    have := flat10 (dlt none (c.take k)) (fun n hn => by have := dlt_lt (c.take k) none (fun y hy => HU.out y (List.mem_of_mem_take hy)) (fun q e => by cases e) n hn; omega)
    unfold layD
    rw [dlt_len, List.length_take] at this
    omega
   generalize stepL c k = x at *
   go_wp2_with fail
   refine HST.out.mono ?_
   rintro e w1 ⟨rfl, hm⟩
   have HN := Hi (numS_any (hW.out.mod0 hm) [x] (fun n hn => by simp at hn; omega) 1 (by simp only [List.length_append, List.length_cons, List.length_nil]; omega))
   clear hm HST
   go_wp2_with fail
   refine HN.out.mono ?_
   rintro e w2 ⟨rfl, h2⟩
   have H2 : Hid (WrS w0 w2 p (l ++ layD (c.take (k + 1)))) := Hi (by
    rw [HTK.out, ← List.append_assoc]
    simpa using h2)
   clear h2 HN
   go_wp2_with fail
   go_roundw
   case rel => exact ⟨k + 1, by go_num, hlt, H2⟩
   case measure => simp [intOf]; omega
  ·obtain rfl : k = c.length := by omega
   rw [List.take_length] at hW
   go_wp2_with fail
   go_end0
   exact ⟨rfl, hW.out⟩
end Go.Proofs.YtjoiaejbahdjkaaGreat
/-
  The program's packed way: walked.
-/
namespace Go.Proofs.YtjoiaejbahdjkaaGreat
open Go Go.RowKit Go.Mine
set_option linter.unusedVariables false
set_option maxHeartbeats 4000000
set_option maxRecDepth 100000
theorem lenN_max (a b : Nat) : lenN (max a b) = max (lenN a) (lenN b) := by
 rcases Nat.le_total a b with h | h
 ·rw [Nat.max_eq_right h, Nat.max_eq_right (lenN_mono h)]
 ·rw [Nat.max_eq_left h, Nat.max_eq_left (lenN_mono h)]
theorem lenN_fold : ∀ (c : List Nat) (a : Nat), lenN (c.foldl max a) = (c.map lenN).foldl max (lenN a)
 | [], a => rfl
 | x :: r, a => by rw [List.foldl_cons, lenN_fold r, List.map_cons, List.foldl_cons, lenN_max]
def maxU (c : List Nat) : Nat := c.foldl max 0
theorem maxU_wide (c : List Nat) : lenN (maxU c) = wideN c := lenN_fold c 0
theorem maxU_lt {c : List Nat} (h : U32 c) : maxU c < 2 ^ 32 := by
 have := foldl_max_le c 0 (2 ^ 32 - 1) (by omega) (fun x hx => by have := h x hx; omega)
 unfold maxU
 omega
theorem maxU_snoc (c : List Nat) (x : Nat) : maxU (c ++ [x]) = max (maxU c) x := foldl_snoc_max c x
theorem max_any (a : Option Addr) (d : Nat) (c : List Nat) (w : World) (hr : Rd w a (u32s c)) (hu : U32 c) (h0 : 0 < c.length) (hn : c.length < 2 ^ 32) :
 Calls Tryz.prog 197 #[.slice a c.length d] w fun e w' => e = .returned (.int .u32 (maxU c : Nat)) ∧ w = w' := by
 have HR := Hi hr; have HU := Hi hu
 obtain ⟨b, o, rfl, x0⟩ := u32_cell hr h0
 rw [Nat.add_zero] at x0
 have HM1 : Hid (maxU (c.take 1) = c[0]) := Hi (by
  rw [List.take_succ_eq_append_getElem h0, maxU_snoc]
  show max (maxU (c.take 0)) _ = _
  rw [List.take_zero]
  show max 0 _ = _
  omega)
 clear hr hu
 generalize c[0] = y at *
 have hl1 : 1 ≤ c.length := h0
 go_enter Tryz.func197, Tryz.ntmps197
 go_wp2_with fail
 clear x0
 go_loopw [3, 4] (fun mv iv wr => ∃ k : Nat, iv = .int .i64 k ∧ k ≤ c.length ∧ mv = .int .u32 (maxU (c.take k) : Nat) ∧ wr = w) (fun _ iv _ => c.length - (intOf iv).toNat)
 case atStart => exact ⟨1, rfl, h0, by rw [HM1.out], rfl⟩
 case round =>
  obtain ⟨k, rfl, hk, rfl, hww⟩ := hrel
  obtain rfl : w = wr := hww.symm
  clear hww
  by_cases hlt : k < c.length
  ·obtain ⟨b', o', e', x0⟩ := u32_cell HR.out hlt
   cases e'
   have HTK : Hid (maxU (c.take (k + 1)) = max (maxU (c.take k)) c[k]) := Hi (by rw [List.take_succ_eq_append_getElem hlt, maxU_snoc])
   generalize maxU (c.take k) = m at *
   generalize c[k] = x at *
   go_wp2_with fail
   go_roundw
   case rel => exact ⟨k + 1, by go_num, hlt, by rw [HTK.out]; congr 1; omega, trivial⟩
   case measure => simp [intOf]; omega
  ·obtain rfl : k = c.length := by omega
   rw [List.take_length]
   go_wp2_with fail
   go_ret
   exact ⟨rfl, rfl⟩
theorem wide_any (a : Option Addr) (d : Nat) (c : List Nat) (w : World) (hr : Rd w a (u32s c)) (hu : U32 c) (hn : c.length < 2 ^ 32) :
 Calls Tryz.prog 184 #[.slice a c.length d] w fun e w' => e = .returned (.int .i64 (wideN c : Nat)) ∧ w = w' := by
 by_cases h0 : c = []
 ·subst h0
  go_enter Tryz.func184, Tryz.ntmps184
  go_wp2_with fail
  go_ret
  exact ⟨rfl, rfl⟩
 ·have hpos : 0 < c.length := List.length_pos_iff.2 h0
  have HM := Hi (max_any a d c w hr hu hpos hn)
  have HW := Hi (maxU_wide c)
  have hml := maxU_lt hu
  have hc0 : ((c.length : Int) == 0) = false := by simp; omega
  clear hr hu h0
  generalize maxU c = m at *
  have HL := Hi (len32_any m hml w)
  rw [HW.out] at HL
  go_enter Tryz.func184, Tryz.ntmps184
  go_wp2_with fail
  refine HM.out.mono ?_
  rintro e w' ⟨rfl, hw⟩
  obtain rfl : w = w' := hw
  go_wp2_with fail
  refine HL.out.mono ?_
  rintro e w' ⟨rfl, hw⟩
  obtain rfl : w = w' := hw
  go_wp2_with fail
  go_ret
  exact ⟨rfl, rfl⟩
theorem layK_len (c : List Nat) : (layK c).length = 1 + (c.length * wideN c + 7) / 8 := by unfold layK; rw [List.length_cons, rowUp_len]; omega
theorem size4_any (a : Option Addr) (d : Nat) (c : List Nat) (w : World) (hr : Rd w a (u32s c)) (hu : U32 c) (hn : c.length < 2 ^ 32) :
 Calls Tryz.prog 183 #[.slice a c.length d] w fun e w' => e = .returned (.int .i64 ((layK c).length : Nat)) ∧ w = w' := by
 have HW := Hi (wide_any a d c w hr hu hn)
 have HLL := Hi (layK_len c)
 have hW : wideN c ≤ 32 := wideN_le hu
 have hNb : c.length * wideN c ≤ 2 ^ 37 := Nat.le_trans (Nat.mul_le_mul_left _ hW) (by omega)
 have hNZ : (c.length : Int) * (wideN c : Int) = ((c.length * wideN c : Nat) : Int) := by push_cast; rfl
 clear hr hu
 generalize c.length * wideN c = N at *
 generalize wideN c = W at *
 generalize (layK c).length = z at *
 go_enter Tryz.func183, Tryz.ntmps183
 go_wp2_with fail
 refine HW.out.mono ?_
 rintro e w' ⟨rfl, hw⟩
 obtain rfl : w = w' := hw
 go_wp2_with fail
 go_ret
 exact ⟨ret_i64 (by rw [HLL.out]; omega), rfl⟩
theorem WrS.modG {w0 w w' : World} {p : Nat} {l : List UInt8} (h : WrS w0 w p l) (m : Mod (fun b => w.heap.size ≤ b) w w') : WrS w0 w' p l := by
 obtain ⟨a, h1, h2, h3, h4⟩ := h
 have hlt : p < w.heap.size := (Array.getElem?_eq_some_iff.1 h1.2.choose_spec.1).1
 have hlta : ∀ b, blk a = some b → b < w.heap.size := h1.2.choose_spec.2.lt
 exact ⟨a, h1.mod m (by omega) (fun b hb e => by have := hlta b hb; omega), h2, h3, h4.step m (fun b hb e => by have := h4.size; omega)⟩
theorem or_room (q b e : Nat) (hq : q < 2 ^ e) (hb : b < 2) (he : e < 8) : bits .or .u8 (q : Int) ((b : Int) * 2 ^ e % 256) = ((q + b * 2 ^ e : Nat) : Int) := by
 have h1 : b * 2 ^ e < 256 := by
  have h2 : 2 ^ e ≤ 2 ^ 7 := Nat.pow_le_pow_right (by omega) (by omega)
  have := Nat.mul_le_mul (show b ≤ 1 by omega) h2
  omega
 have h2 : 2 ^ e ≤ 2 ^ 7 := Nat.pow_le_pow_right (by omega) (by omega)
 have e1 : (b : Int) * 2 ^ e % 256 = ((b * 2 ^ e : Nat) : Int) := by
  have : (b : Int) * 2 ^ e = ((b * 2 ^ e : Nat) : Int) := by push_cast; rfl
  rw [this]; omega
 rw [e1, u8_or_nat q (b * 2 ^ e) (by omega) h1]
 have := Nat.two_pow_add_eq_or_of_lt hq b
 rw [Nat.or_comm, Nat.mul_comm b, ← this, Nat.add_comm]
theorem room_lt {q b e : Nat} (hq : q < 2 ^ e) (hb : b < 2) (he : e < 8) : q + b * 2 ^ e < 256 := by
 have h2 : 2 ^ e ≤ 2 ^ 7 := Nat.pow_le_pow_right (by omega) (by omega)
 have := Nat.mul_le_mul (show b ≤ 1 by omega) h2
 omega
theorem lay4_any {w0 w : World} {p : Nat} {l : List UInt8} (h : WrS w0 w p l) (a : Option Addr) (d : Nat) (c : List Nat) (hr : Rd w0 a (u32s c)) (hu : U32 c) (hn : c.length ≤ 65536) (hl : l.length < 100) :
 Calls Tryz.prog 185 #[.pointer (some ⟨p, 0, none⟩), .slice a c.length d] w fun e w' => e = .returned (.tuple #[]) ∧ WrS w0 w' p (l ++ layK c) := by
 have HWD := Hi (wide_any a d c w (hr.mod h.md (fun _ _ => id)) hu (by omega))
 have HLK : Hid (layK c = UInt8.ofNat (wideN c) :: rowUp c (wideN c) (c.length * wideN c)) := Hi rfl
 have hW : wideN c ≤ 32 := wideN_le hu
 have H := Hi h; have HR := Hi hr; have HU := Hi hu
 obtain ⟨N, hN⟩ : ∃ N, N = c.length * wideN c := ⟨_, rfl⟩
 have hNb : N ≤ 2 ^ 37 := by rw [hN]; exact Nat.le_trans (Nat.mul_le_mul_left _ hW) (by omega)
 have hNZ : (c.length : Int) * (wideN c : Int) = (N : Int) := by rw [hN]; push_cast; rfl
 have HN := Hi hN
 clear h hr hu hN
 generalize wideN c = W at *
 go_enter Tryz.func185, Tryz.ntmps185
 go_wp2_with fail
 refine HWD.out.mono ?_
 rintro e w' ⟨rfl, hw⟩
 obtain rfl : w = w' := hw
 clear HWD
 go_wp2_with fail
 have e1 : bts [UInt8.ofNat W] = [.int .u8 (W : Nat)] := by simp [bts]; omega
 have m1 : Mod (fun _ => False) w (w.alloc (.cells #[.int .u8 (W : Nat)] 5)) := (Mod.refl _ w).alloc _
 have HRW := Hi (rawS_any (H.out.mod0 m1) [UInt8.ofNat W] (some ⟨w.heap.size, 0, none⟩) 1 (by rw [e1]; exact Rd.news w [.int .u8 (W : Nat)] 5) (by omega) (by simp))
 clear e1 m1
 refine HRW.out.mono ?_
 rintro e w1 ⟨rfl, h1⟩
 have H1 := Hi h1
 clear h1 HRW
 have hmk := mkB ((N + 7) / 8) (by omega) w1
 have hm8 : ((N : Int) + 7) / 8 = (((N + 7) / 8 : Nat) : Int) := by omega
 generalize hMM : (N + 7) / 8 = M at *
 have HM := Hi hMM
 clear hMM
 go_wp2_with fail
 obtain ⟨wz, hwz⟩ : ∃ v, v = w1.alloc (.cells (Array.replicate M (.int .u8 0)) 5) := ⟨_, rfl⟩
 have HO2 : Hid (Mine.Own wz 5 1 (some ⟨w1.heap.size, 0, none⟩) M M (bts (rowUp c W 0))) := Hi (by
  have h1 := Mine.Own.made w1 5 1 (Array.replicate M (.int .u8 0)) M M (Nat.le_refl _) (by unfold maxLen; omega) (by simp)
  rw [← hwz] at h1
  have e : bts (rowUp c W 0) = (Array.replicate M (Value.int .u8 0)).toList.take (M * 1) := by
   rw [rowUp_zero, ← HN.out, HM.out]
   simp [bts]
  rw [e]
  exact h1)
 have HMZ : Hid (Mod (fun b => w1.heap.size ≤ b) w1 wz) := Hi (by rw [hwz]; exact (Mod.refl _ w1).alloc _)
 rw [← hwz]
 clear hmk hwz
 have HG := Hi (Nat.le_refl w1.heap.size)
 generalize hgg : w1.heap.size = g at *
 have HGG := Hi hgg
 clear hgg
 go_loopw [6, 7, 8, 9, 26, 32] (fun _ _ _ _ iv _ wr => ∃ i : Nat, iv = .int .i64 i ∧ i ≤ c.length ∧ Hid (Mine.Own wr 5 1 (some ⟨g, 0, none⟩) M M (bts (rowUp c W (i * W)))) ∧ Hid (Mod (fun b => g ≤ b) w1 wr)) (fun _ _ _ _ iv _ _ => c.length - (intOf iv).toNat)
 case atStart => exact ⟨0, rfl, Nat.zero_le _, by rw [Nat.zero_mul]; exact HO2, HMZ⟩
 case round =>
  clear HO2 HMZ
  obtain ⟨i, rfl, hi, hO, hM⟩ := hrel
  have HWS := Hi (H1.out.modG (by rw [HGG.out]; exact hM.out))
  by_cases hlt : i < c.length
  ·obtain ⟨b, o, rfl, x0⟩ := u32_cell (HR.out.mod HWS.out.md (fun _ _ => id)) hlt
   have HBC : Hid (∀ k, k < W → bitC c W (i * W + k) = bitN c[i] k) := Hi (fun k hk => by
    unfold bitC
    have hd : (i * W + k) / W = i := by
     rw [Nat.add_comm, Nat.add_mul_div_right _ _ (by omega), Nat.div_eq_of_lt hk]; omega
    have hm : (i * W + k) % W = k := by
     rw [Nat.add_comm, Nat.add_mul_mod_self_right, Nat.mod_eq_of_lt hk]
    rw [hd, hm, getD_at hlt])
   have hIN : i * W + W ≤ N := by
    rw [HN.out]
    have := Nat.mul_le_mul_right W (show i + 1 ≤ c.length by omega)
    rw [Nat.add_mul] at this
    omega
   have hx32 := HU.out _ (List.getElem_mem hlt)
   have HI1 : Hid ((i + 1) * W = i * W + W) := Hi (by rw [Nat.add_mul, Nat.one_mul])
   have hiW : (i : Int) * (W : Int) = ((i * W : Nat) : Int) := by push_cast; rfl
   generalize c[i] = x at *
   generalize i * W = I at *
   rename World => wq
   go_wp2_with fail
   go_loopw [8, 9, 32] (fun _ _ kv wr => ∃ k : Nat, kv = .int .i64 k ∧ k ≤ W ∧ Hid (Mine.Own wr 5 1 (some ⟨g, 0, none⟩) M M (bts (rowUp c W (I + k)))) ∧ Hid (Mod (fun b => g ≤ b) w1 wr)) (fun _ _ kv _ => W - (intOf kv).toNat)
   case atStart => exact ⟨0, rfl, Nat.zero_le _, hO, hM⟩
   case round =>
    obtain ⟨k, rfl, hk, hO3, hM3⟩ := hrel
    by_cases hlk : k < W
    ·have hbc := HBC.out k hlk
     have hmI : (I : Int) + (k : Int) = ((I + k : Nat) : Int) := by omega
     have HK1 : Hid (I + (k + 1) = I + k + 1) := Hi (by omega)
     have hmN : I + k < N := by omega
     have HSET := Hi (rowUp_set c W (I + k) (by rw [← HN.out]; exact hmN))
     have hqr := byteUp_room c W (I + k)
     rw [hbc] at HSET
     clear hbc
     have hrg := rowUp_get c W (I + k) ((I + k) / 8) (by rw [← HN.out, HM.out]; have := HM.out; omega)
     have y1 : wr.cell? ⟨g, (I + k) / 8, none⟩ = some (.int .u8 (byteUp c W (I + k) ((I + k) / 8) : Nat)) := by
      obtain ⟨b', o', e', h1⟩ := hO3.out.rd ((I + k) / 8) (.int .u8 (byteUp c W (I + k) ((I + k) / 8) : Nat)) (by
       unfold bts
       rw [List.getElem?_map, hrg]
       have := byteUp_lt c W (I + k) ((I + k) / 8)
       simp; omega)
      cases e'
      simpa using h1
     have f1 : wr.frozen? ⟨g, (I + k) / 8, none⟩ = false := hO3.out.frozen rfl
     have hand : bits .and .u32 ((x : Int) / 2 ^ k) 1 = ((bitN x k : Nat) : Int) := by
      have h9 : x / 2 ^ k ≤ x := Nat.div_le_self _ _
      rw [shr_cast, and1 _ (by omega)]
      rfl
     have hb2 := bitN_lt x k
     have hor := or_room (byteUp c W (I + k) ((I + k) / 8)) (bitN x k) ((I + k) % 8) hqr hb2 (by omega)
     have hm8M : (I + k) / 8 < M := by have := HM.out; omega
     clear hrg
     generalize I + k = m at *
     generalize byteUp c W m (m / 8) = q at *
     generalize bitN x k = bb at *
     go_wp2_with fail
     refine wp_region_ord (fun w' => True) [(0, 0), (0, 1), (0, 2), (0, 3), (0, 5), (0, 6), (0, 7), (0, 8), (0, 9), (0, 10), (0, 11), (0, 12), (3, 4), (0, 13), (0, 14), (3, 15)] (by kernel_rfl) (by kernel_rfl) ?_
     go_wp2_with (first
      |(refine ord_pure rfl rfl rfl (fun K hK => ?_); go_big_quiet_op; refine hK _ ?_; clear hK K)
      |(refine ord_drop rfl rfl (fun K hK => ?_))
      |(refine ord_nil ?_))
     have HST : Hid (Mine.Own (wr.setCell ⟨g, m / 8, none⟩ (.int .u8 ((q : Int) + (bb : Int) * 2 ^ (m % 8)))).drew 5 1 (some ⟨g, 0, none⟩) M M (bts (rowUp c W (m + 1)))) := Hi (by
      have h1 := hO3.out.store (m / 8) (.int .u8 ((q : Int) + (bb : Int) * 2 ^ (m % 8)))
      have h2 : bts (rowUp c W (m + 1)) = (bts (rowUp c W m)).set (m / 8) (.int .u8 ((q : Int) + (bb : Int) * 2 ^ (m % 8))) := by
       rw [HSET.out]
       unfold bts
       rw [List.map_set]
       have h3 : (((UInt8.ofNat (q + bb * 2 ^ (m % 8))).toNat : Nat) : Int) = (q : Int) + (bb : Int) * 2 ^ (m % 8) := by
        have h4 := room_lt hqr hb2 (show m % 8 < 8 by omega)
        rw [UInt8.toNat_ofNat', Nat.mod_eq_of_lt h4]
        push_cast
        rfl
       rw [h3]
      rw [h2]
      exact h1.drew)
     have HMS : Hid (Mod (fun b => g ≤ b) w1 (wr.setCell ⟨g, m / 8, none⟩ (.int .u8 ((q : Int) + (bb : Int) * 2 ^ (m % 8)))).drew) := Hi (hM3.out.setCell (p := ⟨g, m / 8, none⟩) (fun _ => Nat.le_refl g) _).drew
     go_roundw
     case rel => exact ⟨k + 1, by go_num, hlk, by rw [HK1.out]; exact HST, HMS⟩
     case measure => simp [intOf]; omega
    ·obtain rfl : k = W := by omega
     go_wp2_with fail
     go_roundw
     case rel => exact ⟨i + 1, by go_num, hlt, by rw [HI1.out]; exact hO3, hM3⟩
     case measure => simp [intOf]; omega
  ·obtain rfl : i = c.length := by omega
   rw [← HN.out] at hO
   have hrl : (rowUp c W N).length = M := by rw [rowUp_len, ← HN.out, HM.out]
   have hM37 : M ≤ 2 ^ 37 := by have := HM.out; omega
   have HRW := Hi (rawS_any HWS.out (rowUp c W N) (some ⟨g, 0, none⟩) M hO.out.rd (by simp; omega) (by omega))
   rw [hrl] at HRW
   have HL2 : Hid (l ++ [UInt8.ofNat W] ++ rowUp c W N = l ++ layK c) := Hi (by rw [HLK.out, ← HN.out]; simp)
   rw [HL2.out] at HRW
   clear hrl
   go_wp2_with fail
   refine HRW.out.mono ?_
   rintro e w3 ⟨rfl, h3⟩
   go_wp2_with fail
   go_end0
   exact ⟨rfl, h3⟩
end Go.Proofs.YtjoiaejbahdjkaaGreat
