import Derived.Test.YtjoiaejbahdjkaaGreatGet
import Derived.Test.YtjoiaejbahdjkaaGreatWriter
namespace Go.Proofs.YtjoiaejbahdjkaaGreat
open Go Go.RowKit Go.Mine
set_option maxHeartbeats 400000
set_option maxRecDepth 100000
set_option linter.unusedVariables false
structure RdAt (w : World) (p : Nat) (a : Option Addr) (c : Nat) (l : List UInt8) (at_ f : Nat) : Prop where
 ne : blk a ≠ some p
 le : at_ ≤ l.length
 lc : l.length ≤ c
 len : l.length < 2 ^ 40
 heap : w.heap[p]? = some (.cells #[.slice a l.length c, .int .i64 at_, .int .i64 f, .bool true] 103 (0, 0))
 rd : Rd w a (bts l)
theorem RdAt.mod {S : Nat → Prop} {w w' : World} {p : Nat} {a : Option Addr} {c : Nat} {l : List UInt8} {at_ f : Nat} (h : RdAt w p a c l at_ f) (m : Mod S w w') (h1 : ¬ S p) (h2 : ∀ b, blk a = some b → ¬ S b) : RdAt w' p a c l at_ f :=
 ⟨h.ne, h.le, h.lc, h.len, m.at h.heap h1, h.rd.mod m h2⟩
theorem RdAt.mod0 {w w' : World} {p : Nat} {a : Option Addr} {c : Nat} {l : List UInt8} {at_ f : Nat} (h : RdAt w p a c l at_ f) (m : Mod (fun _ => False) w w') : RdAt w' p a c l at_ f := h.mod m id (fun _ _ => id)
theorem rnone_any (p : Nat) (c0 c1 c2 : Value) (t : TypeId) (w : World) (h : w.heap[p]? = some (.cells #[c0, c1, c2, .bool true] t (0, 0))) :
 Calls Tryz.prog 68 #[.pointer (some ⟨p, 0, none⟩)] w fun e w' => e = .returned (.bool false) ∧ w = w' := by
 have hc : w.cell? ⟨p, 3, none⟩ = some (.bool true) := cell_at h rfl
 have H := Hi h; clear h
 go_enter Tryz.func68, Tryz.ntmps68
 go_wp2
 go_ret
 exact ⟨rfl, rfl⟩
theorem rerr_any (p : Nat) (c0 c1 : Value) (f : Nat) (t : TypeId) (w : World) (h : w.heap[p]? = some (.cells #[c0, c1, .int .i64 f, .bool true] t (0, 0))) :
 Calls Tryz.prog 34 #[.pointer (some ⟨p, 0, none⟩)] w fun e w' => e = .returned (.int .i64 f) ∧ w = w' := by
 have hc : w.cell? ⟨p, 2, none⟩ = some (.int .i64 f) := cell_at h rfl
 have H := Hi h; clear h
 go_enter Tryz.func34, Tryz.ntmps34
 go_wp2_with (go_at_call 68; refine (rnone_any p _ _ _ _ _ H.out).mono ?_; rintro e w' ⟨rfl, rfl⟩)
 go_ret
 exact ⟨rfl, rfl⟩
theorem rat_any (p : Nat) (c0 c2 : Value) (x : Nat) (t : TypeId) (w : World) (h : w.heap[p]? = some (.cells #[c0, .int .i64 x, c2, .bool true] t (0, 0))) :
 Calls Tryz.prog 129 #[.pointer (some ⟨p, 0, none⟩)] w fun e w' => e = .returned (.int .i64 x) ∧ w = w' := by
 have hc : w.cell? ⟨p, 1, none⟩ = some (.int .i64 x) := cell_at h rfl
 have H := Hi h; clear h
 go_enter Tryz.func129, Tryz.ntmps129
 go_wp2_with (go_at_call 68; refine (rnone_any p _ _ _ _ _ H.out).mono ?_; rintro e w' ⟨rfl, rfl⟩)
 go_ret
 exact ⟨rfl, rfl⟩
theorem get_at (a : Option Addr) (c : Nat) (l : List UInt8) (at_ : Nat) (w : World) (hr : Rd w a (bts l)) (hle : at_ ≤ l.length) (hlc : l.length ≤ c) (hlen : l.length < 2 ^ 40) :
 Calls Tryz.prog 93 #[.slice (subA a c at_ 1) (l.length - at_) (c - at_)] w fun e w' => e = .returned (.tuple #[.int .u64 (getL (l.drop at_)).1, .int .i64 (getL (l.drop at_)).2.1, .int .i64 (getL (l.drop at_)).2.2]) ∧ w = w' := by
 rw [← List.length_drop]
 refine get_any _ _ _ w ?_ (by simp; omega)
 have := subA_rd hr (c := c) (lo := at_) (k := 1) (fun h => by simp; omega)
 simpa [bts, List.map_drop] using this
theorem number_any (p : Nat) (a : Option Addr) (c : Nat) (l : List UInt8) (at_ f : Nat) (w : World) (h : RdAt w p a c l at_ f) :
 Calls Tryz.prog 66 #[.pointer (some ⟨p, 0, none⟩)] w fun e w' => e = .returned (.tuple #[.int .u64 (getL (l.drop at_)).1, .int .i64 ((at_ + (getL (l.drop at_)).2.1 : Nat) : Int), .int .i64 (getL (l.drop at_)).2.2]) ∧ Mod (fun _ => False) w w' := by
 have hc0 : w.cell? ⟨p, 0, none⟩ = some (.slice a l.length c) := cell_at h.heap rfl
 have hc1 : w.cell? ⟨p, 1, none⟩ = some (.int .i64 at_) := cell_at h.heap rfl
 have hle := h.le
 have hlc := h.lc
 have hlen := h.len
 have H := Hi h; clear h
 have hsl := run_slice_lo' ti24 a l.length c (at_ : Int) (by omega) (by omega)
 go_enter Tryz.func66, Tryz.ntmps66
 go_wp2
 refine wp_region_ord (fun w' => w'.cell? ⟨p, 0, none⟩ = some (.slice a l.length c) ∧ w'.cell? ⟨p, 1, none⟩ = some (.int .i64 at_)) [(0, 0), (0, 1), (0, 2), (1, 3), (0, 4), (0, 5), (0, 6), (1, 7), (0, 8), (3, 9), (0, 10), (0, 11), (0, 12), (0, 13), (0, 14), (0, 15), (0, 16)] (by kernel_rfl) (by kernel_rfl) ?_
 go_wp2_with (first
  |(refine ord_pure rfl rfl rfl (fun K hK => ?_); go_big_quiet_op; refine hK _ ?_; clear hK K)
  |(refine ord_held rfl rfl rfl (by exact ⟨by simpa using hc0, by simpa using hc1⟩) (fun K hK => ?_); apply Exists.intro; refine ⟨fun w' hs => ?_, hK _ ?_⟩; (revert hs; dsimp only; (try simp only [and_imp]); intros; go_simp; rfl); clear hK K)
  |(refine ord_drop rfl rfl (fun K hK => ?_))
  |(refine ord_nil ?_)
  |(go_at_call 93; refine (get_at a c l at_ _ H.out.rd.drew hle hlc hlen).mono ?_; rintro e w' ⟨rfl, rfl⟩
    have hk := getL_le (l.drop at_)
    rw [List.length_drop] at hk
    generalize hg : getL (l.drop at_) = g at *
    have HG := Hi hg; clear hg))
 refine wp_region_ord (fun _ => True) [(0, 0), (0, 1), (0, 2), (0, 3), (0, 5), (0, 7), (0, 8), (3, 4), (0, 6), (0, 9), (0, 10)] (by kernel_rfl) (by kernel_rfl) ?_
 go_wp2_with (first
  |(refine ord_pure rfl rfl rfl (fun K hK => ?_); go_big_quiet_op; refine hK _ ?_; clear hK K)
  |(refine ord_drop rfl rfl (fun K hK => ?_))
  |(refine ord_nil ?_))
 go_ret3
 exact ⟨ret_uii (by rw [HG.out]) (by rw [HG.out]; push_cast; rfl) (by rw [HG.out]), (Mod.refl _ w).drew.drew⟩
def stNum (l : List UInt8) (at_ f : Nat) : Nat × Nat × Nat :=
 if f ≠ 0 then (0, at_, f) else if (getL (l.drop at_)).2.2 ≠ 0 then (0, at_, (getL (l.drop at_)).2.2) else ((getL (l.drop at_)).1, at_ + (getL (l.drop at_)).2.1, 0)
theorem RdAt.setAt {w : World} {p : Nat} {a : Option Addr} {c : Nat} {l : List UInt8} {at_ f : Nat} (h : RdAt w p a c l at_ f) {x : Nat} (hx : x ≤ l.length) : RdAt (w.setCell ⟨p, 1, none⟩ (.int .i64 x)) p a c l x f :=
 ⟨h.ne, hx, h.lc, h.len, heap_setCell_at _ h.heap, h.rd.mod ((Mod.refl (fun b => b = p) w).setCell (fun _ => rfl) _) (fun b hb e => h.ne (by rw [hb, e]))⟩
theorem RdAt.setF {w : World} {p : Nat} {a : Option Addr} {c : Nat} {l : List UInt8} {at_ f : Nat} (h : RdAt w p a c l at_ f) (x : Nat) : RdAt (w.setCell ⟨p, 2, none⟩ (.int .i64 x)) p a c l at_ x :=
 ⟨h.ne, h.le, h.lc, h.len, heap_setCell_at _ h.heap, h.rd.mod ((Mod.refl (fun b => b = p) w).setCell (fun _ => rfl) _) (fun b hb e => h.ne (by rw [hb, e]))⟩
theorem rnum_any (p : Nat) (a : Option Addr) (c : Nat) (l : List UInt8) (at_ f : Nat) (w : World) (h : RdAt w p a c l at_ f) :
 Calls Tryz.prog 63 #[.pointer (some ⟨p, 0, none⟩)] w fun e w' => e = .returned (.tuple #[.int .u64 (getL (l.drop at_)).1, .int .i64 (getL (l.drop at_)).2.2]) ∧
  RdAt w' p a c l (if (getL (l.drop at_)).2.2 = 0 then at_ + (getL (l.drop at_)).2.1 else at_) f ∧ Mod (fun b => b = p) w w' := by
 have hk := getL_le (l.drop at_)
 rw [List.length_drop] at hk
 have hle := h.le
 have H := Hi h; clear h
 have HN := Hi (number_any p a c l at_ f w H.out)
 generalize getL (l.drop at_) = g at *
 obtain ⟨n, k, e⟩ := g
 simp only at *
 by_cases hg : e = 0
 ·subst hg
  rw [if_pos rfl]
  go_enter Tryz.func63, Tryz.ntmps63
  go_wp2_with (first
   |(go_at_call 66; refine HN.out.mono ?_; rintro e w1 ⟨rfl, hM⟩
     have h1 := H.out.mod0 hM
     have hc1 : w1.cell? ⟨p, 1, none⟩ = some (.int .i64 at_) := cell_at h1.heap rfl
     have hf1 : w1.frozen? ⟨p, 1, none⟩ = false := frozen_at h1.heap
     have HM := Hi hM; have H1 := Hi h1; clear hM h1))
  go_ret2
  have e : ((at_ : Int) + (k : Int)) = ((at_ + k : Nat) : Int) := by push_cast; rfl
  rw [e]
  exact ⟨rfl, H1.out.setAt (by omega), Mine.Mod.setCell (S := fun b => b = p) (p := ⟨p, 1, none⟩) (HM.out.mono (fun _ _ h => h.elim)) (fun _ => rfl) _⟩
 ·have hgb : ((e : Int) == 0) = false := by simp; omega
  rw [if_neg hg]
  have HG := Hi hg; clear hg
  go_enter Tryz.func63, Tryz.ntmps63
  go_wp2_with (first
   |(go_at_call 66; refine HN.out.mono ?_; rintro e w1 ⟨rfl, hM⟩
     have HM := Hi hM; clear hM))
  go_ret2
  exact ⟨rfl, H.out.mod0 HM.out, HM.out.mono (fun _ _ h => h.elim)⟩
theorem readU_any (p : Nat) (a : Option Addr) (c : Nat) (l : List UInt8) (at_ f : Nat) (w : World) (h : RdAt w p a c l at_ f) :
 Calls Tryz.prog 62 #[.pointer (some ⟨p, 0, none⟩), .func (.func 63) #[.pointer (some ⟨p, 0, none⟩)] #[]] w fun e w' => e = .returned (.int .u64 (stNum l at_ f).1) ∧
  RdAt w' p a c l (stNum l at_ f).2.1 (stNum l at_ f).2.2 ∧ Mod (fun b => b = p) w w' := by
 have hc2 : w.cell? ⟨p, 2, none⟩ = some (.int .i64 f) := cell_at h.heap rfl
 have H := Hi h; clear h
 by_cases hf0 : f = 0
 ·subst hf0
  have HN := Hi (rnum_any p a c l at_ 0 w H.out)
  unfold stNum
  rw [if_neg (by simp)]
  generalize getL (l.drop at_) = g at *
  obtain ⟨n, k, e⟩ := g
  simp only at *
  by_cases hg : e = 0
  ·subst hg
   rw [if_pos rfl] at HN
   rw [if_neg (by simp)]
   go_enter Tryz.func62, Tryz.ntmps62
   go_wp2_with (first
    |(go_at_call 68; refine (rnone_any p _ _ _ _ _ H.out.heap).mono ?_; rintro e w' ⟨rfl, rfl⟩)
    |(go_at_call 63; refine HN.out.mono ?_; rintro e w1 ⟨rfl, h1, hM⟩; have HM := Hi hM; have H1 := Hi h1; clear hM h1))
   go_ret
   exact ⟨rfl, H1.out, HM.out⟩
  ·have hgb : ((e : Int) != 0) = true := by simp; omega
   rw [if_neg hg] at HN
   rw [if_pos (by simpa using hg)]
   have HG := Hi hg; clear hg
   go_enter Tryz.func62, Tryz.ntmps62
   go_wp2_with (first
    |(go_at_call 68; refine (rnone_any p _ _ _ _ _ H.out.heap).mono ?_; rintro e w' ⟨rfl, rfl⟩)
    |(go_at_call 63; refine HN.out.mono ?_; rintro e w1 ⟨rfl, h1, hM⟩
      have hc1 : w1.cell? ⟨p, 2, none⟩ = some (.int .i64 0) := cell_at h1.heap rfl
      have hf1 : w1.frozen? ⟨p, 2, none⟩ = false := frozen_at h1.heap
      have HM := Hi hM; have H1 := Hi h1; clear hM h1))
   go_ret
   exact ⟨rfl, H1.out.setF e, HM.out.setCell (fun _ => rfl) _⟩
 ·have hfb : ((f : Int) != 0) = true := by simp; omega
  unfold stNum
  rw [if_pos hf0]
  clear hf0
  go_enter Tryz.func62, Tryz.ntmps62
  go_wp2_with (first
   |(go_at_call 68; refine (rnone_any p _ _ _ _ _ H.out.heap).mono ?_; rintro e w' ⟨rfl, rfl⟩))
  go_ret
  exact ⟨rfl, H.out, Mod.refl _ w⟩
theorem rdNum_any (p : Nat) (a : Option Addr) (c : Nat) (l : List UInt8) (at_ f : Nat) (w : World) (h : RdAt w p a c l at_ f) :
 Calls Tryz.prog 32 #[.pointer (some ⟨p, 0, none⟩)] w fun e w' => e = .returned (.int .u64 (stNum l at_ f).1) ∧
  RdAt w' p a c l (stNum l at_ f).2.1 (stNum l at_ f).2.2 ∧ Mod (fun b => b = p) w w' := by
 have H := Hi (readU_any p a c l at_ f w h); clear h
 go_enter Tryz.func32, Tryz.ntmps32
 go_wp2_with (first
  |(go_at_call 62; refine H.out.mono ?_; rintro e w1 ⟨rfl, h1, hM⟩; have HM := Hi hM; have H1 := Hi h1; clear hM h1))
 go_ret
 exact ⟨rfl, H1.out, HM.out⟩
end Go.Proofs.YtjoiaejbahdjkaaGreat
