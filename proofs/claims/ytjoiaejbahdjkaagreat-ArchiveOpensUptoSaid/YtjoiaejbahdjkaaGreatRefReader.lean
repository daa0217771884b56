import Derived.Test.YtjoiaejbahdjkaaGreatReader2
import Derived.Test.YtjoiaejbahdjkaaGreatRefGet
namespace Go.Proofs.YtjoiaejbahdjkaaGreat
open Go Go.RowKit Go.Mine
set_option maxHeartbeats 400000
set_option maxRecDepth 100000
set_option linter.unusedVariables false
structure RfAt (w : World) (p : Nat) (a : Option Addr) (c : Nat) (l : List UInt8) (at_ f : Nat) : Prop where
 ne : blk a ≠ some p
 le : at_ ≤ l.length
 lc : l.length ≤ c
 len : l.length < 2 ^ 40
 heap : w.heap[p]? = some (.cells #[.slice a l.length c, .int .i64 at_, .int .i64 f] 158 (0, 0))
 rd : Rd w a (bts l)
theorem RfAt.mod {S : Nat → Prop} {w w' : World} {p : Nat} {a : Option Addr} {c : Nat} {l : List UInt8} {at_ f : Nat} (h : RfAt w p a c l at_ f) (m : Mod S w w') (h1 : ¬ S p) (h2 : ∀ b, blk a = some b → ¬ S b) : RfAt w' p a c l at_ f :=
 ⟨h.ne, h.le, h.lc, h.len, m.at h.heap h1, h.rd.mod m h2⟩
theorem RfAt.mod0 {w w' : World} {p : Nat} {a : Option Addr} {c : Nat} {l : List UInt8} {at_ f : Nat} (h : RfAt w p a c l at_ f) (m : Mod (fun _ => False) w w') : RfAt w' p a c l at_ f := h.mod m id (fun _ _ => id)
theorem RfAt.setAt {w : World} {p : Nat} {a : Option Addr} {c : Nat} {l : List UInt8} {at_ f : Nat} (h : RfAt w p a c l at_ f) {x : Nat} (hx : x ≤ l.length) : RfAt (w.setCell ⟨p, 1, none⟩ (.int .i64 x)) p a c l x f :=
 ⟨h.ne, hx, h.lc, h.len, heap_setCell_at _ h.heap, h.rd.mod ((Mod.refl (fun b => b = p) w).setCell (fun _ => rfl) _) (fun b hb e => h.ne (by rw [hb, e]))⟩
theorem RfAt.setF {w : World} {p : Nat} {a : Option Addr} {c : Nat} {l : List UInt8} {at_ f : Nat} (h : RfAt w p a c l at_ f) (x : Nat) : RfAt (w.setCell ⟨p, 2, none⟩ (.int .i64 x)) p a c l at_ x :=
 ⟨h.ne, h.le, h.lc, h.len, heap_setCell_at _ h.heap, h.rd.mod ((Mod.refl (fun b => b = p) w).setCell (fun _ => rfl) _) (fun b hb e => h.ne (by rw [hb, e]))⟩
theorem fails_any (p : Nat) (a : Option Addr) (c : Nat) (l : List UInt8) (at_ f x : Nat) (w : World) (h : RfAt w p a c l at_ f) :
 Calls Tryz.prog 132 #[.pointer (some ⟨p, 0, none⟩), .int .i64 x] w fun e w' => e = .returned (.tuple #[]) ∧ RfAt w' p a c l at_ x ∧ Mod (fun b => b = p) w w' := by
 have hc1 : w.cell? ⟨p, 2, none⟩ = some (.int .i64 f) := cell_at h.heap rfl
 have hf1 : w.frozen? ⟨p, 2, none⟩ = false := frozen_at h.heap
 have H := Hi h; clear h
 go_enter Tryz.func132, Tryz.ntmps132
 go_wp2
 go_end0
 exact ⟨rfl, H.out.setF x, Mine.Mod.setCell (S := fun b => b = p) (p := ⟨p, 2, none⟩) (Mod.refl _ w) (fun _ => rfl) _⟩
theorem refGet_at (a : Option Addr) (c : Nat) (l : List UInt8) (at_ : Nat) (w : World) (hr : Rd w a (bts l)) (hle : at_ ≤ l.length) (hlc : l.length ≤ c) (hlen : l.length < 2 ^ 40) :
 Calls Tryz.prog 91 #[.slice (subA a c at_ 1) (l.length - at_) (c - at_)] w fun e w' => e = .returned (.tuple #[.int .u64 (getL (l.drop at_)).1, .int .i64 (getL (l.drop at_)).2.1, .int .i64 (getL (l.drop at_)).2.2]) ∧ w = w' := by
 rw [← List.length_drop]
 refine refGet_any _ _ _ w ?_ (by simp; omega)
 have := subA_rd hr (c := c) (lo := at_) (k := 1) (fun h => by simp; omega)
 simpa [bts, List.map_drop] using this
theorem rfNum_any (p : Nat) (a : Option Addr) (c : Nat) (l : List UInt8) (at_ f : Nat) (w : World) (h : RfAt w p a c l at_ f) :
 Calls Tryz.prog 109 #[.pointer (some ⟨p, 0, none⟩)] w fun e w' => e = .returned (.int .u64 (stNum l at_ f).1) ∧
  RfAt w' p a c l (stNum l at_ f).2.1 (stNum l at_ f).2.2 ∧ Mod (fun b => b = p) w w' := by
 have hc0 : w.cell? ⟨p, 0, none⟩ = some (.slice a l.length c) := cell_at h.heap rfl
 have hc1 : w.cell? ⟨p, 1, none⟩ = some (.int .i64 at_) := cell_at h.heap rfl
 have hc2 : w.cell? ⟨p, 2, none⟩ = some (.int .i64 f) := cell_at h.heap rfl
 have hf1 : w.frozen? ⟨p, 1, none⟩ = false := frozen_at h.heap
 have hle := h.le
 have hlc := h.lc
 have hlen := h.len
 have H := Hi h; clear h
 by_cases hf0 : f = 0
 ·subst hf0
  have hsl := run_slice_lo' ti24 a l.length c (at_ : Int) (by omega) (by omega)
  have HN : Hid (∀ w : World, Rd w a (bts l) → _) := fun w1 hr => refGet_at a c l at_ w1 hr hle hlc hlen
  have hkl := getL_le (l.drop at_)
  rw [List.length_drop] at hkl
  unfold stNum
  rw [if_neg (by simp)]
  generalize getL (l.drop at_) = g at *
  obtain ⟨n, k, e⟩ := g
  simp only at *
  by_cases hg : e = 0
  ·subst hg
   rw [if_neg (by simp)]
   have H1 := Hi (H.out.setAt (x := at_ + k) (by omega))
   simp only [Int.natCast_add] at H1
   go_enter Tryz.func109, Tryz.ntmps109
   go_wp2
   refine wp_region_ord (fun w' => w'.cell? ⟨p, 0, none⟩ = some (.slice a l.length c) ∧ w'.cell? ⟨p, 1, none⟩ = some (.int .i64 at_)) [(0, 0), (0, 1), (0, 2), (1, 3), (0, 4), (0, 5), (0, 6), (1, 7), (0, 8), (3, 9), (0, 10), (0, 11), (0, 12), (0, 13), (0, 14), (0, 15), (0, 16)] (by kernel_rfl) (by kernel_rfl) ?_
   go_wp2_with (first
    |(refine ord_pure rfl rfl rfl (fun K hK => ?_); go_big_quiet_op; refine hK _ ?_; clear hK K)
    |(refine ord_held rfl rfl rfl (by exact ⟨by simpa using hc0, by simpa using hc1⟩) (fun K hK => ?_); apply Exists.intro; refine ⟨fun w' hs => ?_, hK _ ?_⟩; (revert hs; dsimp only; (try simp only [and_imp]); intros; go_simp; rfl); clear hK K)
    |(refine ord_drop rfl rfl (fun K hK => ?_))
    |(refine ord_nil ?_)
    |(go_at_call 91; refine (HN.out _ H.out.rd.drew).mono ?_; rintro e w' ⟨rfl, rfl⟩))
   go_ret
   exact ⟨rfl, H1.out.mod0 (Mod.refl _ _).drew, (Mine.Mod.setCell (S := fun b => b = p) (p := ⟨p, 1, none⟩) (Mod.refl _ w).drew (fun _ => rfl) _)⟩
  ·have hgb : ((e : Int) != 0) = true := by simp; omega
   rw [if_pos hg]
   have HG := Hi hg; clear hg
   go_enter Tryz.func109, Tryz.ntmps109
   go_wp2
   refine wp_region_ord (fun w' => w'.cell? ⟨p, 0, none⟩ = some (.slice a l.length c) ∧ w'.cell? ⟨p, 1, none⟩ = some (.int .i64 at_)) [(0, 0), (0, 1), (0, 2), (1, 3), (0, 4), (0, 5), (0, 6), (1, 7), (0, 8), (3, 9), (0, 10), (0, 11), (0, 12), (0, 13), (0, 14), (0, 15), (0, 16)] (by kernel_rfl) (by kernel_rfl) ?_
   go_wp2_with (first
    |(refine ord_pure rfl rfl rfl (fun K hK => ?_); go_big_quiet_op; refine hK _ ?_; clear hK K)
    |(refine ord_held rfl rfl rfl (by exact ⟨by simpa using hc0, by simpa using hc1⟩) (fun K hK => ?_); apply Exists.intro; refine ⟨fun w' hs => ?_, hK _ ?_⟩; (revert hs; dsimp only; (try simp only [and_imp]); intros; go_simp; rfl); clear hK K)
    |(refine ord_drop rfl rfl (fun K hK => ?_))
    |(refine ord_nil ?_)
    |(go_at_call 91; refine (HN.out _ H.out.rd.drew).mono ?_; rintro e w' ⟨rfl, rfl⟩)
    |(go_at_call 132; refine (fails_any p a c l at_ 0 e _ (H.out.mod0 (Mod.refl _ w).drew)).mono ?_; rintro e w' ⟨rfl, h2, hM⟩; have H2 := Hi h2; have HM := Hi hM; clear h2 hM))
   go_ret
   exact ⟨rfl, H2.out, (Mod.refl _ w).drew.trans HM.out⟩
 ·have hfb : ((f : Int) != 0) = true := by simp; omega
  unfold stNum
  rw [if_pos hf0]
  have HF := Hi hf0; clear hf0
  go_enter Tryz.func109, Tryz.ntmps109
  go_wp2
  go_ret
  exact ⟨rfl, H.out, Mod.refl _ w⟩
theorem rfText_any (p : Nat) (a : Option Addr) (c most : Nat) (l : List UInt8) (at_ f : Nat) (w : World) (h : RfAt w p a c l at_ f) (hm : most < 2 ^ 40) :
 Calls Tryz.prog 108 #[.pointer (some ⟨p, 0, none⟩), .int .i64 most] w fun e w' => e = .returned (.string ⟨(stText most l at_ f).1.toArray⟩) ∧
  RfAt w' p a c l (stText most l at_ f).2.1 (stText most l at_ f).2.2 ∧ Mod (fun b => b = p) w w' := by
 have hc0 : w.cell? ⟨p, 0, none⟩ = some (.slice a l.length c) := cell_at h.heap rfl
 have hc1 : w.cell? ⟨p, 1, none⟩ = some (.int .i64 at_) := cell_at h.heap rfl
 have hc2 : w.cell? ⟨p, 2, none⟩ = some (.int .i64 f) := cell_at h.heap rfl
 have hf1 : w.frozen? ⟨p, 1, none⟩ = false := frozen_at h.heap
 have hle := h.le
 have hlc := h.lc
 have hlen := h.len
 have H := Hi h; clear h
 by_cases hf0 : f = 0
 ·subst hf0
  have hsl := run_slice_lo' ti24 a l.length c (at_ : Int) (by omega) (by omega)
  have HN : Hid (∀ w : World, Rd w a (bts l) → _) := fun w1 hr => refGet_at a c l at_ w1 hr hle hlc hlen
  have hkl := getL_le (l.drop at_)
  have hspec := getL_spec (l.drop at_)
  rw [List.length_drop] at hkl
  unfold stText
  rw [if_neg (by simp)]
  generalize getL (l.drop at_) = g at *
  obtain ⟨n, k, e⟩ := g
  simp only at *
  by_cases hg : e = 0
  ·subst hg
   rw [if_neg (by simp)]
   have hn64 : n < 2 ^ 64 := by
    rcases hspec with h | h | h
    ·exact h.2.2.2
    ·simp at h
    ·simp at h
   clear hspec
   by_cases hmost : most < n
   ·rw [if_pos hmost]
    go_enter Tryz.func108, Tryz.ntmps108
    go_wp2
    refine wp_region_ord (fun w' => w'.cell? ⟨p, 0, none⟩ = some (.slice a l.length c) ∧ w'.cell? ⟨p, 1, none⟩ = some (.int .i64 at_)) [(0, 0), (0, 1), (0, 2), (1, 3), (0, 4), (0, 5), (0, 6), (1, 7), (0, 8), (3, 9), (0, 10), (0, 11), (0, 12), (0, 13), (0, 14), (0, 15), (0, 16)] (by kernel_rfl) (by kernel_rfl) ?_
    go_wp2_with (first
     |(refine ord_pure rfl rfl rfl (fun K hK => ?_); go_big_quiet_op; refine hK _ ?_; clear hK K)
     |(refine ord_held rfl rfl rfl (by exact ⟨by simpa using hc0, by simpa using hc1⟩) (fun K hK => ?_); apply Exists.intro; refine ⟨fun w' hs => ?_, hK _ ?_⟩; (revert hs; dsimp only; (try simp only [and_imp]); intros; go_simp; rfl); clear hK K)
     |(refine ord_drop rfl rfl (fun K hK => ?_))
     |(refine ord_nil ?_)
     |(go_at_call 91; refine (HN.out _ H.out.rd.drew).mono ?_; rintro e w' ⟨rfl, rfl⟩)
     |(go_at_call 132; refine (fails_any p a c l at_ 0 3 _ (H.out.mod0 (Mod.refl _ w).drew)).mono ?_; rintro e w' ⟨rfl, h2, hM⟩; have H2 := Hi h2; have HM := Hi hM; clear h2 hM))
    go_ret
    exact ⟨rfl, H2.out, (Mod.refl _ w).drew.trans HM.out⟩
   ·rw [if_neg hmost]
    by_cases hbig : l.length - (at_ + k) < n
    ·rw [if_pos hbig]
     go_enter Tryz.func108, Tryz.ntmps108
     go_wp2
     refine wp_region_ord (fun w' => w'.cell? ⟨p, 0, none⟩ = some (.slice a l.length c) ∧ w'.cell? ⟨p, 1, none⟩ = some (.int .i64 at_)) [(0, 0), (0, 1), (0, 2), (1, 3), (0, 4), (0, 5), (0, 6), (1, 7), (0, 8), (3, 9), (0, 10), (0, 11), (0, 12), (0, 13), (0, 14), (0, 15), (0, 16)] (by kernel_rfl) (by kernel_rfl) ?_
     go_wp2_with (first
      |(refine ord_pure rfl rfl rfl (fun K hK => ?_); go_big_quiet_op; refine hK _ ?_; clear hK K)
      |(refine ord_held rfl rfl rfl (by exact ⟨by simpa using hc0, by simpa using hc1⟩) (fun K hK => ?_); apply Exists.intro; refine ⟨fun w' hs => ?_, hK _ ?_⟩; (revert hs; dsimp only; (try simp only [and_imp]); intros; go_simp; rfl); clear hK K)
      |(refine ord_drop rfl rfl (fun K hK => ?_))
      |(refine ord_nil ?_)
      |(go_at_call 91; refine (HN.out _ H.out.rd.drew).mono ?_; rintro e w' ⟨rfl, rfl⟩))
     refine wp_region_ord (fun w' => w'.cell? ⟨p, 0, none⟩ = some (.slice a l.length c) ∧ w'.cell? ⟨p, 1, none⟩ = some (.int .i64 at_)) [(0, 0), (0, 1), (0, 2), (0, 3), (1, 4), (0, 5), (0, 6), (0, 7), (0, 8), (1, 9), (0, 10), (0, 11), (0, 12), (0, 13), (0, 14)] (by kernel_rfl) (by kernel_rfl) ?_
     go_wp2_with (first
      |(refine ord_pure rfl rfl rfl (fun K hK => ?_); go_big_quiet_op; refine hK _ ?_; clear hK K)
      |(refine ord_held rfl rfl rfl (by exact ⟨by simpa using hc0, by simpa using hc1⟩) (fun K hK => ?_); apply Exists.intro; refine ⟨fun w' hs => ?_, hK _ ?_⟩; (revert hs; dsimp only; (try simp only [and_imp]); intros; go_simp; rfl); clear hK K)
      |(refine ord_nil ?_)
      |(go_at_call 132; refine (fails_any p a c l at_ 0 10 _ (H.out.mod0 (Mod.refl _ w).drew.drew)).mono ?_; rintro e w' ⟨rfl, h2, hM⟩; have H2 := Hi h2; have HM := Hi hM; clear h2 hM))
     go_ret
     exact ⟨rfl, H2.out, (Mod.refl _ w).drew.drew.trans HM.out⟩
    ·rw [if_neg hbig]
     have hsl2 := run_slice_lohi' ti24 a l.length c ((at_ : Int) + k) ((at_ : Int) + k + n) (by omega) (by omega) (by omega)
     have hn1 : ((at_ : Int) + k + (n : Int)).toNat - (at_ + k) = n := by omega
     have hn2 : ((at_ : Int) + (k : Int)).toNat = at_ + k := by omega
     simp only [hn2, hn1] at hsl2
     clear hn1 hn2
     have hln : ((l.drop (at_ + k)).take n).length = n := by simp; omega
     have e : ((at_ : Int) + k + (n : Int)) = ((at_ + k + n : Nat) : Int) := by push_cast; rfl
     have H1 : Hid (∀ w : World, RfAt w p a c l at_ 0 → RfAt (w.setCell ⟨p, 1, none⟩ (.int .i64 ((at_ : Int) + k + (n : Int)))) p a c l (at_ + k + n) 0) := by
      intro w1 h1
      rw [e]
      exact h1.setAt (by omega)
     have E := Hi e; have HLN := Hi hln; clear e hln
     go_enter Tryz.func108, Tryz.ntmps108
     go_wp2
     refine wp_region_ord (fun w' => w'.cell? ⟨p, 0, none⟩ = some (.slice a l.length c) ∧ w'.cell? ⟨p, 1, none⟩ = some (.int .i64 at_)) [(0, 0), (0, 1), (0, 2), (1, 3), (0, 4), (0, 5), (0, 6), (1, 7), (0, 8), (3, 9), (0, 10), (0, 11), (0, 12), (0, 13), (0, 14), (0, 15), (0, 16)] (by kernel_rfl) (by kernel_rfl) ?_
     go_wp2_with (first
      |(refine ord_pure rfl rfl rfl (fun K hK => ?_); go_big_quiet_op; refine hK _ ?_; clear hK K)
      |(refine ord_held rfl rfl rfl (by exact ⟨by simpa using hc0, by simpa using hc1⟩) (fun K hK => ?_); apply Exists.intro; refine ⟨fun w' hs => ?_, hK _ ?_⟩; (revert hs; dsimp only; (try simp only [and_imp]); intros; go_simp; rfl); clear hK K)
      |(refine ord_drop rfl rfl (fun K hK => ?_))
      |(refine ord_nil ?_)
      |(go_at_call 91; refine (HN.out _ H.out.rd.drew).mono ?_; rintro e w' ⟨rfl, rfl⟩))
     refine wp_region_ord (fun w' => w'.cell? ⟨p, 0, none⟩ = some (.slice a l.length c) ∧ w'.cell? ⟨p, 1, none⟩ = some (.int .i64 at_)) [(0, 0), (0, 1), (0, 2), (0, 3), (1, 4), (0, 5), (0, 6), (0, 7), (0, 8), (1, 9), (0, 10), (0, 11), (0, 12), (0, 13), (0, 14)] (by kernel_rfl) (by kernel_rfl) ?_
     go_wp2_with (first
      |(refine ord_pure rfl rfl rfl (fun K hK => ?_); go_big_quiet_op; refine hK _ ?_; clear hK K)
      |(refine ord_held rfl rfl rfl (by exact ⟨by simpa using hc0, by simpa using hc1⟩) (fun K hK => ?_); apply Exists.intro; refine ⟨fun w' hs => ?_, hK _ ?_⟩; (revert hs; dsimp only; (try simp only [and_imp]); intros; go_simp; rfl); clear hK K)
      |(refine ord_nil ?_))
     obtain ⟨w1, hw1⟩ : ∃ w1 : World, w1 = (w.setCell ⟨p, 1, none⟩ (.int .i64 ((at_ : Int) + k + (n : Int)))).drew.drew := ⟨_, rfl⟩
     rw [← hw1]
     have h1 : RfAt w1 p a c l (at_ + k + n) 0 := by rw [hw1]; exact (H1.out _ H.out).mod0 (Mod.refl _ _).drew.drew
     have hm1 : Mine.Mod (fun b => b = p) w w1 := by rw [hw1]; exact (Mine.Mod.setCell (S := fun b => b = p) (p := ⟨p, 1, none⟩) (Mod.refl _ w) (fun _ => rfl) _).drew.drew
     clear hw1
     have hd0 : w1.cell? ⟨p, 0, none⟩ = some (.slice a l.length c) := cell_at h1.heap rfl
     have hd1 : w1.cell? ⟨p, 1, none⟩ = some (.int .i64 ((at_ : Int) + k + (n : Int))) := by rw [E.out]; exact cell_at h1.heap rfl
     have hcv := run_bytes24 (subA a c (at_ + k) 1) ((l.drop (at_ + k)).take n) (c - (at_ + k)) w1.drew (subA_part h1.rd.drew hlc)
     rw [HLN.out] at hcv
     have H2 := Hi h1; have HM := Hi hm1; clear h1 hm1
     refine wp_region_ord (fun w' => w'.cell? ⟨p, 0, none⟩ = some (.slice a l.length c) ∧ w'.cell? ⟨p, 1, none⟩ = some (.int .i64 ((at_ : Int) + k + (n : Int)))) [(0, 0), (0, 1), (0, 2), (1, 3), (0, 4), (0, 5), (0, 6), (0, 7), (1, 8), (0, 9), (3, 10), (0, 11)] (by kernel_rfl) (by kernel_rfl) ?_
     go_wp2_with (first
      |(refine ord_pure rfl rfl rfl (fun K hK => ?_); go_big_quiet_op; refine hK _ ?_; clear hK K)
      |(refine ord_held rfl rfl rfl (by exact ⟨by simpa using hd0, by simpa using hd1⟩) (fun K hK => ?_); apply Exists.intro; refine ⟨fun w' hs => ?_, hK _ ?_⟩; (revert hs; dsimp only; (try simp only [and_imp]); intros; go_simp; rfl); clear hK K)
      |(refine ord_drop rfl rfl (fun K hK => ?_))
      |(refine ord_nil ?_))
     go_ret
     exact ⟨rfl, H2.out.mod0 (Mod.refl _ w1).drew, HM.out.drew⟩
  ·have hgb : ((e : Int) != 0) = true := by simp; omega
   rw [if_pos hg]
   have HG := Hi hg; clear hg hspec
   go_enter Tryz.func108, Tryz.ntmps108
   go_wp2
   refine wp_region_ord (fun w' => w'.cell? ⟨p, 0, none⟩ = some (.slice a l.length c) ∧ w'.cell? ⟨p, 1, none⟩ = some (.int .i64 at_)) [(0, 0), (0, 1), (0, 2), (1, 3), (0, 4), (0, 5), (0, 6), (1, 7), (0, 8), (3, 9), (0, 10), (0, 11), (0, 12), (0, 13), (0, 14), (0, 15), (0, 16)] (by kernel_rfl) (by kernel_rfl) ?_
   go_wp2_with (first
    |(refine ord_pure rfl rfl rfl (fun K hK => ?_); go_big_quiet_op; refine hK _ ?_; clear hK K)
    |(refine ord_held rfl rfl rfl (by exact ⟨by simpa using hc0, by simpa using hc1⟩) (fun K hK => ?_); apply Exists.intro; refine ⟨fun w' hs => ?_, hK _ ?_⟩; (revert hs; dsimp only; (try simp only [and_imp]); intros; go_simp; rfl); clear hK K)
    |(refine ord_drop rfl rfl (fun K hK => ?_))
    |(refine ord_nil ?_)
    |(go_at_call 91; refine (HN.out _ H.out.rd.drew).mono ?_; rintro e w' ⟨rfl, rfl⟩)
    |(go_at_call 132; refine (fails_any p a c l at_ 0 e _ (H.out.mod0 (Mod.refl _ w).drew)).mono ?_; rintro e w' ⟨rfl, h2, hM⟩; have H2 := Hi h2; have HM := Hi hM; clear h2 hM))
   go_ret
   exact ⟨rfl, H2.out, (Mod.refl _ w).drew.trans HM.out⟩
 ·have hfb : ((f : Int) != 0) = true := by simp; omega
  rw [stText_f hf0]
  have HF := Hi hf0; clear hf0
  go_enter Tryz.func108, Tryz.ntmps108
  go_wp2
  go_ret
  exact ⟨rfl, H.out, Mod.refl _ w⟩
end Go.Proofs.YtjoiaejbahdjkaaGreat
