import Derived.Test.YtjoiaejbahdjkaaGreatReader
namespace Go.Proofs.YtjoiaejbahdjkaaGreat
open Go Go.RowKit Go.Mine
set_option maxHeartbeats 400000
set_option maxRecDepth 100000
set_option linter.unusedVariables false
theorem run_bytes24 (a : Option Addr) (l : List UInt8) (c : Nat) (w : World) (h : Rd w a (bts l)) : (convert 23 9 (.slice a l.length c)).run Tryz.prog w = .ok (.string ⟨l.toArray⟩) w :=
 run_bytes_str (e := 5) (by kernel_rfl) (by kernel_rfl) (by kernel_rfl) c h
theorem subA_part {w : World} {a : Option Addr} {l : List UInt8} {c from_ n : Nat} (h : Rd w a (bts l)) (hlc : l.length ≤ c) : Rd w (subA a c from_ 1) (bts ((l.drop from_).take n)) := by
 have := (subA_rd h (c := c) (lo := from_) (k := 1) (fun h => by simp; omega)).take n
 simpa [bts, List.map_drop, List.map_take] using this
theorem take_no (p : Nat) (a : Option Addr) (c : Nat) (l : List UInt8) (at_ f from_ n : Nat) (w : World) (h : RdAt w p a c l at_ f) (hfrom : from_ ≤ l.length) (hn : n < 2 ^ 64) (hbig : l.length - from_ < n) :
 Calls Tryz.prog 67 #[.pointer (some ⟨p, 0, none⟩), .int .i64 from_, .int .u64 n] w fun e w' => e = .returned (.tuple #[.slice none 0 0, .int .i64 10]) ∧ w = w' := by
 have hc0 : w.cell? ⟨p, 0, none⟩ = some (.slice a l.length c) := cell_at h.heap rfl
 have hlen := h.len
 have H := Hi h; clear h
 go_enter Tryz.func67, Tryz.ntmps67
 go_wp2
 go_ret2
 exact ⟨rfl, rfl⟩
theorem take_yes (p : Nat) (a : Option Addr) (c : Nat) (l : List UInt8) (at_ f from_ n : Nat) (w : World) (h : RdAt w p a c l at_ f) (hsum : from_ + n ≤ l.length) :
 Calls Tryz.prog 67 #[.pointer (some ⟨p, 0, none⟩), .int .i64 from_, .int .u64 n] w fun e w' => e = .returned (.tuple #[.slice (subA a c from_ 1) n (c - from_), .int .i64 0]) ∧
  RdAt w' p a c l (from_ + n) f ∧ Mod (fun b => b = p) w w' := by
 have hc0 : w.cell? ⟨p, 0, none⟩ = some (.slice a l.length c) := cell_at h.heap rfl
 have hc1 : w.cell? ⟨p, 1, none⟩ = some (.int .i64 at_) := cell_at h.heap rfl
 have hf1 : w.frozen? ⟨p, 1, none⟩ = false := frozen_at h.heap
 have hlen := h.len
 have hlc := h.lc
 have h1 := h.setAt hsum
 have H1 := Hi h1; have H := Hi h; clear h h1
 have hsl := run_slice_lohi' ti24 a l.length c (from_ : Int) ((from_ : Int) + n) (by omega) (by omega) (by omega)
 have hn1 : ((from_ : Int) + (n : Int)).toNat - from_ = n := by omega
 simp only [Int.toNat_natCast, hn1] at hsl
 clear hn1
 have e : ((from_ : Int) + (n : Int)) = ((from_ + n : Nat) : Int) := by push_cast; rfl
 rw [← e] at H1
 have E := Hi e; clear e
 go_enter Tryz.func67, Tryz.ntmps67
 go_wp2
 obtain ⟨w1, hw1⟩ : ∃ w1 : World, w1 = w.setCell ⟨p, 1, none⟩ (.int .i64 ((from_ : Int) + n)) := ⟨_, rfl⟩
 rw [← hw1] at H1 ⊢
 have hd0 : w1.cell? ⟨p, 0, none⟩ = some (.slice a l.length c) := cell_at H1.out.heap rfl
 have hd1 : w1.cell? ⟨p, 1, none⟩ = some (.int .i64 ((from_ : Int) + n)) := by rw [E.out]; exact cell_at H1.out.heap rfl
 have HW1 := Hi hw1; clear hw1
 refine wp_region_ord (fun w' => w'.cell? ⟨p, 0, none⟩ = some (.slice a l.length c) ∧ w'.cell? ⟨p, 1, none⟩ = some (.int .i64 ((from_ : Int) + n))) [(0, 0), (0, 1), (0, 2), (1, 3), (0, 4), (0, 5), (0, 6), (0, 7), (1, 8), (0, 9), (0, 10), (0, 11)] (by kernel_rfl) (by kernel_rfl) ?_
 go_wp2_with (first
  |(refine ord_pure rfl rfl rfl (fun K hK => ?_); go_big_quiet_op; refine hK _ ?_; clear hK K)
  |(refine ord_held rfl rfl rfl (by exact ⟨by simpa using hd0, by simpa using hd1⟩) (fun K hK => ?_); apply Exists.intro; refine ⟨fun w' hs => ?_, hK _ ?_⟩; (revert hs; dsimp only; (try simp only [and_imp]); intros; go_simp; rfl); clear hK K)
  |(refine ord_nil ?_))
 go_ret2
 refine ⟨rfl, H1.out.mod0 (Mod.refl _ w1).drew, ?_⟩
 rw [HW1.out]
 exact (Mine.Mod.setCell (S := fun b => b = p) (p := ⟨p, 1, none⟩) (Mod.refl _ w) (fun _ => rfl) _).drew
def stText (most : Nat) (l : List UInt8) (at_ f : Nat) : List UInt8 × Nat × Nat :=
 if f ≠ 0 then ([], at_, f) else
 if (getL (l.drop at_)).2.2 ≠ 0 then ([], at_, (getL (l.drop at_)).2.2) else
 if most < (getL (l.drop at_)).1 then ([], at_, 3) else
 if l.length - (at_ + (getL (l.drop at_)).2.1) < (getL (l.drop at_)).1 then ([], at_, 10) else
 ((l.drop (at_ + (getL (l.drop at_)).2.1)).take (getL (l.drop at_)).1, at_ + (getL (l.drop at_)).2.1 + (getL (l.drop at_)).1, 0)
theorem text1_any (bm br p : Nat) (a : Option Addr) (c most : Nat) (l : List UInt8) (at_ : Nat) (w : World) (h : RdAt w p a c l at_ 0) (hm : most < 2 ^ 40)
 (h1 : w.cell? ⟨bm, 0, none⟩ = some (.int .i64 most)) (h2 : w.cell? ⟨br, 0, none⟩ = some (.pointer (some ⟨p, 0, none⟩))) (n1 : bm ≠ p) (n2 : br ≠ p) :
 Calls Tryz.prog 65 #[.pointer (some ⟨bm, 0, none⟩), .pointer (some ⟨br, 0, none⟩)] w fun e w' => e = .returned (.tuple #[.string ⟨(stText most l at_ 0).1.toArray⟩, .int .i64 (stText most l at_ 0).2.2]) ∧
  RdAt w' p a c l (stText most l at_ 0).2.1 0 ∧ Mod (fun b => b = p) w w' := by
 have hspec := getL_spec (l.drop at_)
 have hkl := getL_le (l.drop at_)
 rw [List.length_drop] at hkl
 have hle := h.le
 have H := Hi h
 have HN := Hi (number_any p a c l at_ 0 w h)
 clear h
 unfold stText
 rw [if_neg (by simp)]
 generalize getL (l.drop at_) = g at *
 obtain ⟨n, k, e⟩ := g
 simp only at *
 by_cases he : e = 0
 ·subst he
  have hn64 : n < 2 ^ 64 := by
   rcases hspec with h | h | h
   ·exact h.2.2.2
   ·simp at h
   ·simp at h
  clear hspec
  rw [if_neg (by simp)]
  by_cases hmost : most < n
  ·rw [if_pos hmost]
   go_enter Tryz.func65, Tryz.ntmps65
   go_wp2_with (first
    |(go_at_call 66; refine HN.out.mono ?_; rintro e w1 ⟨rfl, hM⟩
      have hc1 := hM.cell h1 id
      have hc2 := hM.cell h2 id
      have HM := Hi hM; clear hM))
   go_ret2
   exact ⟨rfl, H.out.mod0 HM.out, HM.out.mono (fun _ _ h => h.elim)⟩
  ·rw [if_neg hmost]
   by_cases hbig : l.length - (at_ + k) < n
   ·rw [if_pos hbig]
    go_enter Tryz.func65, Tryz.ntmps65
    have hcv : ∀ w, (convert 23 9 (.slice none 0 0)).run Tryz.prog w = .ok (.string ⟨#[]⟩) w := fun w => run_bytes24 none [] 0 w (Rd.nil _ _)
    have ht := fun (w1 : World) (h1 : RdAt w1 p a c l at_ 0) => take_no p a c l at_ 0 (at_ + k) n w1 h1 (by omega) hn64 hbig
    simp only [Int.natCast_add] at ht
    have HT := Hi ht; clear ht
    go_wp2_with (first
     |(go_at_call 66; refine HN.out.mono ?_; rintro e w1 ⟨rfl, hM⟩
       have hc1 := hM.cell h1 id
       have hc2 := hM.cell h2 id
       have HM := Hi hM; clear hM)
     |(go_at_call 67; refine (HT.out _ (H.out.mod0 HM.out)).mono ?_; rintro e w2 ⟨rfl, rfl⟩))
    go_ret2
    exact ⟨rfl, H.out.mod0 HM.out, HM.out.mono (fun _ _ h => h.elim)⟩
   ·rw [if_neg hbig]
    go_enter Tryz.func65, Tryz.ntmps65
    have ht := fun (w1 : World) (h1 : RdAt w1 p a c l at_ 0) => take_yes p a c l at_ 0 (at_ + k) n w1 h1 (by omega)
    have hln : ((l.drop (at_ + k)).take n).length = n := by simp; omega
    simp only [Int.natCast_add] at ht
    have HT := Hi ht; have HLN := Hi hln; clear ht hln
    go_wp2_with (first
     |(go_at_call 66; refine HN.out.mono ?_; rintro e w1 ⟨rfl, hM⟩
       have hc1 := hM.cell h1 id
       have hc2 := hM.cell h2 id
       have HM := Hi hM; clear hM)
     |(go_at_call 67; refine (HT.out _ (H.out.mod0 HM.out)).mono ?_; rintro e w2 ⟨rfl, hR2, hM2⟩
       have hcv := run_bytes24 (subA a c (at_ + k) 1) ((l.drop (at_ + k)).take n) (c - (at_ + k)) w2 (subA_part hR2.rd hR2.lc)
       rw [HLN.out] at hcv
       have HR2 := Hi hR2; have HM2 := Hi hM2; clear hR2 hM2))
    go_ret2
    exact ⟨rfl, HR2.out, (HM.out.mono (fun _ _ h => h.elim)).trans HM2.out⟩
 ·have hgb : ((e : Int) != 0) = true := by simp; omega
  rw [if_pos he]
  have HE := Hi he; clear he hspec
  go_enter Tryz.func65, Tryz.ntmps65
  go_wp2_with (first
   |(go_at_call 66; refine HN.out.mono ?_; rintro e w1 ⟨rfl, hM⟩
     have hc1 := hM.cell h1 id
     have hc2 := hM.cell h2 id
     have HM := Hi hM; clear hM))
  go_ret2
  exact ⟨rfl, H.out.mod0 HM.out, HM.out.mono (fun _ _ h => h.elim)⟩
theorem stText_f {most : Nat} {l : List UInt8} {at_ f : Nat} (h : f ≠ 0) : stText most l at_ f = ([], at_, f) := by unfold stText; rw [if_pos h]
theorem stText_err {most : Nat} {l : List UInt8} {at_ : Nat} (h : (stText most l at_ 0).2.2 ≠ 0) : (stText most l at_ 0).1 = [] ∧ (stText most l at_ 0).2.1 = at_ := by
 unfold stText at *
 simp only [ne_eq, not_true_eq_false, if_false] at *
 split
 ·exact ⟨rfl, rfl⟩
 ·rename_i h1
  rw [if_neg h1] at h
  split
  ·exact ⟨rfl, rfl⟩
  ·rename_i h2
   rw [if_neg h2] at h
   split
   ·exact ⟨rfl, rfl⟩
   ·rename_i h3
    rw [if_neg h3] at h
    exact absurd rfl h
theorem readS_any (bm br p : Nat) (a : Option Addr) (c most : Nat) (l : List UInt8) (at_ f : Nat) (w : World) (h : RdAt w p a c l at_ f) (hm : most < 2 ^ 40)
 (h1 : w.cell? ⟨bm, 0, none⟩ = some (.int .i64 most)) (h2 : w.cell? ⟨br, 0, none⟩ = some (.pointer (some ⟨p, 0, none⟩))) (n1 : bm ≠ p) (n2 : br ≠ p) :
 Calls Tryz.prog 64 #[.pointer (some ⟨p, 0, none⟩), .func (.func 65) #[] #[.pointer (some ⟨bm, 0, none⟩), .pointer (some ⟨br, 0, none⟩)]] w fun e w' => e = .returned (.string ⟨(stText most l at_ f).1.toArray⟩) ∧
  RdAt w' p a c l (stText most l at_ f).2.1 (stText most l at_ f).2.2 ∧ Mod (fun b => b = p) w w' := by
 have hc2 : w.cell? ⟨p, 2, none⟩ = some (.int .i64 f) := cell_at h.heap rfl
 have H := Hi h; clear h
 by_cases hf0 : f = 0
 ·subst hf0
  have HN := Hi (text1_any bm br p a c most l at_ w H.out hm h1 h2 n1 n2)
  have HE := Hi (fun h => stText_err (most := most) (l := l) (at_ := at_) h)
  generalize stText most l at_ 0 = g at *
  obtain ⟨x, k, e⟩ := g
  simp only at *
  clear h1 h2
  by_cases hg : e = 0
  ·subst hg
   clear HE
   go_enter Tryz.func64, Tryz.ntmps64
   go_wp2_with (first
    |(go_at_call 68; refine (rnone_any p _ _ _ _ _ H.out.heap).mono ?_; rintro e w' ⟨rfl, rfl⟩)
    |(go_at_call 65; refine HN.out.mono ?_; rintro e w1 ⟨rfl, h1, hM⟩; have HM := Hi hM; have H1 := Hi h1; clear hM h1))
   go_ret
   exact ⟨rfl, H1.out, HM.out⟩
  ·have hgb : ((e : Int) != 0) = true := by simp; omega
   obtain ⟨rfl, rfl⟩ := HE.out hg
   have HG := Hi hg; clear hg HE
   go_enter Tryz.func64, Tryz.ntmps64
   go_wp2_with (first
    |(go_at_call 68; refine (rnone_any p _ _ _ _ _ H.out.heap).mono ?_; rintro e w' ⟨rfl, rfl⟩)
    |(go_at_call 65; refine HN.out.mono ?_; rintro e w1 ⟨rfl, h1, hM⟩
      have hc1 : w1.cell? ⟨p, 2, none⟩ = some (.int .i64 0) := cell_at h1.heap rfl
      have hf1 : w1.frozen? ⟨p, 2, none⟩ = false := frozen_at h1.heap
      have HM := Hi hM; have H1 := Hi h1; clear hM h1))
   go_ret
   exact ⟨rfl, H1.out.setF e, HM.out.setCell (fun _ => rfl) _⟩
 ·have hfb : ((f : Int) != 0) = true := by simp; omega
  rw [stText_f hf0]
  clear hf0 h1 h2
  go_enter Tryz.func64, Tryz.ntmps64
  go_wp2_with (first
   |(go_at_call 68; refine (rnone_any p _ _ _ _ _ H.out.heap).mono ?_; rintro e w' ⟨rfl, rfl⟩))
  go_ret
  exact ⟨rfl, H.out, Mod.refl _ w⟩
theorem rdText_any (p : Nat) (a : Option Addr) (c most : Nat) (l : List UInt8) (at_ f : Nat) (w : World) (h : RdAt w p a c l at_ f) (hm : most < 2 ^ 40) :
 Calls Tryz.prog 33 #[.pointer (some ⟨p, 0, none⟩), .int .i64 most] w fun e w' => e = .returned (.string ⟨(stText most l at_ f).1.toArray⟩) ∧
  RdAt w' p a c l (stText most l at_ f).2.1 (stText most l at_ f).2.2 ∧ Mod (fun b => b = p) w w' := by
 have hlt := (Array.getElem?_eq_some_iff.1 h.heap).1
 have H := Hi h; clear h
 go_enter Tryz.func33, Tryz.ntmps33
 go_wp2_with (first
  |(go_at_call 64; refine (readS_any (w.heap.size + 1) w.heap.size p a c most l at_ f _ (H.out.mod0 (((Mod.refl _ w).alloc _).alloc _)) hm (cell_new rfl) (cell_old (cell_new rfl)) (by omega) (by omega)).mono ?_; rintro e w1 ⟨rfl, h1, hM⟩
    have HM := Hi hM; have H1 := Hi h1; clear hM h1))
 go_ret
 exact ⟨rfl, H1.out, (((Mod.refl _ w).alloc _).alloc _).trans HM.out⟩
theorem newReader_any (a : Option Addr) (c : Nat) (l : List UInt8) (w : World) (hr : Rd w a (bts l)) (hlen : l.length < 2 ^ 40) (hnil : a = none → c = 0) :
 Calls Tryz.prog 31 #[.slice a l.length c] w fun e w' => ∃ p a' c', e = .returned (.pointer (some ⟨p, 0, none⟩)) ∧ RdAt w' p a' c' l 0 0 ∧ w.heap.size ≤ p ∧ Mod (fun _ => False) w w' ∧ (∀ b, blk a' = some b → w.heap.size ≤ b) := by
 cases a with
 | none =>
   have hx : l = [] := by
    cases l with
    | nil => rfl
    | cons u xs => obtain ⟨b, o, e, _⟩ := hr 0 _ rfl; cases e
   subst hx
   clear hr hnil
   go_enter Tryz.func31, Tryz.ntmps31
   go_wp2_with (first
    |(go_at_call 61; refine (clone_nil _ c _).mono ?_; rintro e w' ⟨rfl, rfl⟩))
   go_ret
   refine ⟨w.heap.size, none, 0, rfl, ⟨by simp, Nat.le_refl _, Nat.le_refl _, by simp, heap_alloc_new w _, Rd.nil _ _⟩, Nat.le_refl _, (Mod.refl _ w).alloc _, by simp⟩
 | some ad =>
   have HR := Hi hr; clear hr hnil
   go_enter Tryz.func31, Tryz.ntmps31
   go_wp2_with (first
    |(go_at_call 61; refine (clone_some ad l c _ HR.out hlen).mono ?_; rintro e w1 ⟨g, c', rfl, hg, hO, hM⟩; have HO := Hi hO; have HM := Hi hM; clear hO hM))
   go_ret
   have hg2 := HO.out.lt g rfl
   refine ⟨w1.heap.size, some ⟨g, 0, none⟩, c', rfl, ⟨by simp; omega, Nat.zero_le _, ?_, hlen, heap_alloc_new w1 _, (HO.out.alloc _).rd⟩, HM.out.size, HM.out.alloc _, by simp; omega⟩
   rcases HO.out.2 with ⟨h, _⟩ | ⟨_, _, _, _, h, _⟩
   ·cases h
   ·exact h
end Go.Proofs.YtjoiaejbahdjkaaGreat
