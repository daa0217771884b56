/-
  An archive's bytes.
-/
import Derived.Test.YtjoiaejbahdjkaaGreatAgB
import Derived.Test.YtjoiaejbahdjkaaGreatAgC
namespace Go.Proofs.YtjoiaejbahdjkaaGreat
open Go Go.RowKit Go.Mine Go.Maps
set_option linter.unusedVariables false
set_option maxHeartbeats 8000000
set_option maxRecDepth 100000
theorem Wr.of {w : World} {g n c : Nat} {l : List UInt8} (h : Mine.Own w 5 1 (some ⟨g, 0, none⟩) n c (bts l)) (hn : n = l.length) (hp : 0 < n) : Wr w g l ∧ n ≤ c := by
 obtain ⟨h1, h2⟩ := h
 rcases h2 with ⟨e, _⟩ | ⟨b, cur, e1, h3, h4, h5, h6, h7⟩
 ·cases e
 ·cases e1
  exact ⟨⟨cur, h3, by rw [← hn]; simpa using h7⟩, h4⟩
theorem fourL_lenA (n : Nat) : (fourL n).length = 4 := rfl
theorem files_succ (l : Arc) {k : Nat} (hk : k < l.length) : (l.take (k + 1)).flatMap (·.2) = (l.take k).flatMap (·.2) ++ l[k].2 := by
 rw [List.take_succ_eq_append_getElem hk, List.flatMap_append]
 simp
theorem files_le (l : Arc) (k : Nat) : ((l.take k).flatMap (·.2)).length ≤ arLen l := by
 rw [← arLen_flat]
 have e : l.flatMap (·.2) = (l.take k).flatMap (·.2) ++ (l.drop k).flatMap (·.2) := by rw [← List.flatMap_append, List.take_append_drop]
 rw [e, List.length_append]; omega
theorem bytesA_any (p : Nat) (mb : Option Nat) (l : Ens) (w : World) (h : AAt w p mb l) (hok : ArcOk 1000000000 (arcOf l)) :
 Calls Tryz.prog 23 #[.pointer (some ⟨p, 0, none⟩)] w fun e w' => ∃ g, e = .returned (.slice (some ⟨g, 0, none⟩) (arSz (arcOf l)) (arSz (arcOf l))) ∧ Wr w' g (arcL (arcOf l)) ∧ w.heap.size ≤ g ∧ Mine.Mod (fun _ => False) w w' := by
 have H := Hi h
 have HOK := Hi hok
 have HB := Hi (hok.bnds (by decide))
 have hsz : arSz (arcOf l) ≤ 1000000000 := hok.sz
 have HS := Hi (arSize_any p mb l w h.box h.map HB.out.sz (by have := HB.out.n; omega) HB.out.x)
 obtain ⟨s, hs⟩ : ∃ s, s = arSz (arcOf l) := ⟨_, rfl⟩
 rw [← hs] at HS hsz ⊢
 have HSS := Hi hs
 clear h hok hs
 go_enter Tryz.func23, Tryz.ntmps23
 go_wp2_with fail
 refine HS.out.mono ?_
 clear HS
 rintro e w1 ⟨rfl, hm⟩
 have HM1 := Hi hm
 clear hm
 go_wp2_with fail
 refine (headA_any s (by omega) w1).mono ?_
 rintro e w2 ⟨rfl, hm⟩
 have HM2 := Hi (HM1.out.step hm fun _ _ e => e)
 clear hm HM1
 have hrh : Hid (Rd (w2.alloc (.cells (headV s) 61)) (some ⟨w2.heap.size, 0, none⟩) (bts (arHead s))) := Hi (by
  rw [head_bts s (by omega)]
  exact Rd.news w2 (headV s).toList 61)
 have HM3 : Hid (Mine.Mod (fun _ => False) w (w2.alloc (.cells (headV s) 61))) := Hi (HM2.out.alloc _)
 unfold headV at hrh HM3 ⊢
 go_upto_region 4 with fail
 obtain ⟨q, hq⟩ : ∃ q, q = w2.heap.size := ⟨_, rfl⟩
 rw [← hq] at hrh ⊢
 clear hq
 generalize w2.alloc _ = w3 at *
 have HTB : Hid (∀ W, Mine.Mod (fun _ => False) w3 W → Calls Tryz.prog 51 #[.pointer (some ⟨p, 0, none⟩)] W fun e w' => ∃ g c, e = .returned (.slice (some ⟨g, 0, none⟩) (arTab (arcOf l)).length c) ∧ Mine.Own w' 5 1 (some ⟨g, 0, none⟩) (arTab (arcOf l)).length c (bts (arTab (arcOf l))) ∧ W.heap.size ≤ g ∧ Mine.Mod (fun _ => False) W w') := Hi fun W hW => by
  have hM := HM3.out.step hW fun _ _ e => e
  have hk := HB.out.sz
  unfold arSz at hk
  exact table_any p mb l W (hM.at H.out.box id) (H.out.map.mod hM fun _ _ => id) (by omega) (by have := HB.out.n; omega) HB.out.x
 obtain ⟨T, hT⟩ : ∃ T, T = (arTab (arcOf l)).length := ⟨_, rfl⟩
 rw [← hT] at HTB
 have HT := Hi hT
 have hTs : T + 14 ≤ 1000000000 := by
  have h1 := HSS.out
  unfold arSz at h1
  omega
 clear hT
 refine wp_region_ord (fun _ => True) [(0, 0), (0, 1), (3, 2), (3, 3), (3, 4), (0, 5)] (by kernel_rfl) (by kernel_rfl) ?_
 go_wp2_with (first
  |(refine ord_pure rfl rfl rfl (fun K hK => ?_); go_big_quiet_op; refine hK _ ?_; clear hK K)
  |(refine ord_drop rfl rfl (fun K hK => ?_))
  |(refine ord_nil ?_))
 refine (HTB.out _ (Mod.refl _ w3).drew).mono ?_
 clear HTB
 rintro e w4 ⟨g, c, rfl, hO, hg, hm⟩
 have HO := Hi hO
 have HM4 : Hid (Mine.Mod (fun _ => False) w3 w4) := Hi ((Mod.refl _ w3).drew.step hm fun _ _ e => e)
 clear hO hg hm
 go_wp2_with (first
  |(refine ord_pure rfl rfl rfl (fun K hK => ?_); go_big_quiet_op; refine hK _ ?_; clear hK K)
  |(refine ord_drop rfl rfl (fun K hK => ?_))
  |(refine ord_nil ?_))
 have hlh : (arHead s).length = 10 := rfl
 have HC := Hi (concat2_any (some ⟨q, 0, none⟩) 10 (arHead s) (some ⟨g, 0, none⟩) c (arTab (arcOf l)) w4 (hrh.out.mod HM4.out fun _ _ => id) HO.out.rd (by rw [hlh, ← HT.out]; omega) w4.heap.size rfl)
 rw [hlh, ← HT.out] at HC
 clear hlh
 refine HC.out.mono ?_
 clear HC
 rintro e w5 ⟨a5, c5, rfl, hO5, hm5, hF5⟩
 have HO5 := Hi hO5
 have HM5 : Hid (Mine.Mod (fun _ => False) w w5) := Hi ((HM3.out.step HM4.out fun _ _ e => e).step hm5 fun _ _ e => e)
 have HF5 : Hid (∀ g, blk a5 = some g → w.heap.size ≤ g) := Hi (fun g hg => Nat.le_trans (Nat.le_trans HM3.out.size HM4.out.size) (hF5 g hg))
 clear hO5 hm5 hF5 HO HM4 hrh HM3
 go_wp2_with (first
  |(refine ord_pure rfl rfl rfl (fun K hK => ?_); go_big_quiet_op; refine hK _ ?_; clear hK K)
  |(refine ord_drop rfl rfl (fun K hK => ?_))
  |(refine ord_nil ?_))
 refine (names_any p mb l w5 (HM5.out.at H.out.box id) (H.out.map.mod HM5.out fun _ _ => id) (by have := HB.out.n; omega)).mono ?_
 rintro e w6 ⟨na, nc, rfl, hr, _, hfr, hm⟩
 have HR := Hi hr
 have HA5 : Hid (∀ b, blk a5 = some b → b < w5.heap.size) := Hi HO5.out.lt
 have HFR : Hid (∀ b, blk na = some b → blk a5 ≠ some b) := Hi (fun b hb e => by
  have h1 := hfr b hb
  have h2 := HA5.out b e
  omega)
 have HO6 := Hi (HO5.out.mod hm fun _ _ => id)
 have HM6 := Hi (HM5.out.step hm fun _ _ e => e)
 obtain ⟨n, hnn⟩ : ∃ n, n = l.length := ⟨_, rfl⟩
 have HN := Hi hnn
 have hn38 : n < 2 ^ 38 := by have := HB.out.n; omega
 rw [← hnn]
 clear hr hfr hm hnn HA5 HO5
 go_wp2_with fail
 go_loopw [20, 4] (fun iv bv wr => ∃ (k : Nat) (a2 : Option Addr) (c2 : Nat) (x : List UInt8), k ≤ n ∧ iv = .int .i64 k ∧ bv = .slice a2 x.length c2 ∧ Hid (x = arHead s ++ arTab (arcOf l) ++ ((arcOf l).take k).flatMap (·.2)) ∧ Hid (Mine.Own wr 5 1 a2 x.length c2 (bts x)) ∧ Hid (Grow w6 a5 wr a2)) (fun iv _ _ => n - (intOf iv).toNat)
 case atStart =>
  refine ⟨0, a5, c5, arHead s ++ arTab (arcOf l), Nat.zero_le _, rfl, ?_, Hi (by simp), Hi ?_, Hi (Grow.refl _ _)⟩
  ·rw [List.length_append, ← HT.out]; rfl
  ·rw [List.length_append, ← HT.out]; exact HO6.out
 case round =>
  obtain ⟨k, a2, c2, x, hk, rfl, rfl, hx, hO2, hG2⟩ := hrel
  have HMW : Hid (Mine.Mod (fun _ => False) w wr) := Hi (HM6.out.step hG2.out.mod fun b hb e => by have := HF5.out b e; omega)
  by_cases hlt : k < n
  ·have hkl : k < l.length := by rw [← HN.out]; exact hlt
   have hka : k < (arcOf l).length := by rw [arcOf_len]; exact hkl
   obtain ⟨nm, hnm⟩ : ∃ nm, nm = l[k].1 := ⟨_, rfl⟩
   obtain ⟨hx1, hx2⟩ := HB.out.x _ (List.getElem_mem hkl)
   obtain ⟨hf1, hf2⟩ := H.out.ents _ (List.getElem_mem hkl)
   have HRF : Hid (Rd wr (some ⟨l[k].2.g, 0, none⟩) (bts l[k].2.f)) := Hi (hf2.mod HMW.out fun _ _ => id)
   have hlook := (H.out.map.mod HMW.out fun _ _ => id).look nm (by rw [hnm]; unfold maxLen; omega)
   rw [hnm, getA_mem H.out.map.up (List.getElem_mem hkl), ← hnm] at hlook
   simp only [fval, En.val] at hlook
   have hfs := files_succ (arcOf l) hka
   have hle := files_le (arcOf l) (k + 1)
   have hxs : (arcOf l)[k].2 = l[k].2.f := by simp [arcOf]
   rw [hxs] at hfs
   have hxl := congrArg List.length hx.out
   have hsl := HSS.out
   unfold arSz at hsl
   rw [hfs, List.length_append] at hle
   rw [List.length_append, List.length_append, show (arHead s).length = 10 from rfl] at hxl
   have HX2 : Hid (x ++ l[k].2.f = arHead s ++ arTab (arcOf l) ++ ((arcOf l).take (k + 1)).flatMap (·.2)) := Hi (by rw [hfs, hx.out]; simp only [List.append_assoc])
   obtain ⟨b, o, rfl, hc⟩ := HR.out.mod hG2.out.mod (fun b hb e => HFR.out b hb e) k (.string nm) (by simp [sts, hnm, hkl])
   have p0 := cell_at (j := 0) (HMW.out.at H.out.box id) rfl
   generalize l[k].2.f = y at *
   generalize l[k].2.g = gk at *
   generalize l[k].2.c = ck at *
   obtain ⟨t, ht⟩ : ∃ t, t = x.length := ⟨_, rfl⟩
   obtain ⟨m, hm⟩ : ∃ m, m = y.length := ⟨_, rfl⟩
   rw [← ht] at hO2 hxl ⊢
   rw [← hm] at hlook hle
   have htm : t + m < 2 ^ 38 := by omega
   have HXT := Hi ht
   have HY := Hi hm
   clear hfs hle hxl hsl hx1 hx2 hf1 hf2 hnm ht hm hxs hx
   go_wp2_with (first
    |(at_builtin; refine wpL_append rfl (.tmp 24) (.tmp 30) 23 23 rfl ti24 rfl hO2.out rfl (Src.ofRd ti24.ht m ck HRF.out (by rw [HY.out]; simp [bts]) (bts_one y)) (by omega) (by unfold maxLen; omega) ?_; intro a3 c3 w3 hO3 hG3 _
      have HO3 := Hi hO3; have HG3 := Hi hG3; clear hO3 hG3))
   go_roundw
   case rel =>
    have hl2 : (x ++ y).length = t + m := by rw [List.length_append, ← HXT.out, ← HY.out]
    refine ⟨k + 1, a3, c3, x ++ y, hlt, by go_num, by rw [hl2], HX2, Hi ?_, Hi (hG2.out.trans HG3.out)⟩
    rw [hl2, bts_append]; exact HO3.out
   case measure => simp [intOf]; omega
  ·obtain rfl : n = k := by omega
   have hta : (arcOf l).take n = arcOf l := List.take_of_length_le (by rw [arcOf_len, ← HN.out]; exact Nat.le_refl _)
   have hx2 : x = arBody (arcOf l) := by
    rw [hx.out, hta]
    unfold arBody
    rw [← HSS.out]
   have hbl : (arBody (arcOf l)).length + 4 = s := by
    have h1 := arcL_len (arcOf l)
    unfold arcL at h1
    rw [List.length_append, fourL_lenA] at h1
    rw [HSS.out, ← h1]
   rw [hx2] at hO2 ⊢
   have HF2 : Hid (∀ b, blk a2 = some b → w.heap.size ≤ b) := Hi fun b hb => by
    rcases hG2.out.pos with e | ⟨b2, e, h2⟩
    ·rw [e] at hb; exact HF5.out b hb
    ·rw [e] at hb
     have hb' : b2 = b := by simpa [blk] using hb
     have h1 := HM6.out.size
     omega
   have HSE := Hi (seal_any a2 c2 (arBody (arcOf l)) wr hO2.out.rd (by omega))
   obtain ⟨bl, hb0⟩ : ∃ bl, bl = (arBody (arcOf l)).length := ⟨_, rfl⟩
   rw [← hb0] at HSE hbl hO2 ⊢
   have HBE := Hi hb0
   have HBL := Hi hbl
   clear hbl hx2 hta hx hb0
   go_wp2_with fail
   refine HSE.out.mono ?_
   rintro e w8 ⟨a8, c8, rfl, hO8, hm8, hF8⟩
   obtain ⟨g8, rfl⟩ := hO8.atHead (by omega)
   obtain ⟨hW8, hc8⟩ := Wr.of hO8 (by rw [List.length_append, fourL_lenA, ← HBE.out]) (by omega)
   have HW8 : Hid (Wr w8 g8 (arcL (arcOf l))) := Hi hW8
   have HM8 : Hid (Mine.Mod (fun _ => False) w w8) := Hi (HMW.out.step hm8 fun _ _ e => e)
   have HG8 : Hid (w.heap.size ≤ g8) := Hi (Nat.le_trans HMW.out.size (hF8 g8 rfl))
   have hcl := clip26_any (some ⟨g8, 0, none⟩) s c8 w8 (by rw [← HBL.out]; exact hc8)
   rw [← HBL.out] at hcl ⊢
   clear hW8 hm8 hF8 hc8 hO8 HSE
   go_wp2_with fail
   refine hcl.mono ?_
   rintro e w9 ⟨rfl, hw⟩
   obtain rfl : w8 = w9 := hw
   go_wp2_with fail
   go_ret
   refine ⟨g8, ?_, HW8.out, HG8.out, HM8.out⟩
   rw [← HBL.out]; rfl
end Go.Proofs.YtjoiaejbahdjkaaGreat
