/-
  An archive's bytes.
-/
import Derived.Test.YtjoiaejbahdjkaaGreatAgB
import Derived.Test.YtjoiaejbahdjkaaGreatAgC
namespace Go.Proofs.YtjoiaejbahdjkaaGreat
open Go Go.RowKit Go.Mine Go.Maps
set_option linter.unusedVariables false
set_option maxHeartbeats 8000000
set_option maxRecDepth 100000

theorem Wr.of {w : World} {g n c : Nat} {l : List UInt8} (h : Mine.Own w 5 1 (some ⟨g, 0, none⟩) n c (bts l)) (hn : n = l.length) (hp : 0 < n) : Wr w g l ∧ n ≤ c := by
  obtain ⟨h1, h2⟩ := h
  rcases h2 with ⟨e, _⟩ | ⟨b, cur, e1, h3, h4, h5, h6, h7⟩
  · cases e
  · cases e1
    exact ⟨⟨cur, h3, by rw [← hn]; simpa using h7⟩, h4⟩
theorem fourL_lenA (n : Nat) : (fourL n).length = 4 := rfl
theorem files_succ (l : Arc) {k : Nat} (hk : k < l.length) : (l.take (k + 1)).flatMap (·.2) = (l.take k).flatMap (·.2) ++ l[k].2 := by
  rw [List.take_succ_eq_append_getElem hk, List.flatMap_append]
  simp
theorem files_le (l : Arc) (k : Nat) : ((l.take k).flatMap (·.2)).length ≤ arLen l := by
  rw [← arLen_flat]
  have e : l.flatMap (·.2) = (l.take k).flatMap (·.2) ++ (l.drop k).flatMap (·.2) := by rw [← List.flatMap_append, List.take_append_drop]
  rw [e, List.length_append]; omega
theorem bytesA_any (p : Nat) (mb : Option Nat) (l : Ens) (w : World) (h : AAt w p mb l) (hok : ArcOk 1000000000 (arcOf l)) :
    Calls Tryz.prog 23 #[.pointer (some ⟨p, 0, none⟩)] w fun e w' => ∃ g, e = .returned (.slice (some ⟨g, 0, none⟩) (arSz (arcOf l)) (arSz (arcOf l))) ∧ Wr w' g (arcL (arcOf l)) ∧ w.heap.size ≤ g ∧ Mine.Mod (fun _ => False) w w' := by
  have H := Lib.hid h
  have HOK := Lib.hid hok
  have HB := Lib.hid (hok.bnds (by decide))
  have hsz : arSz (arcOf l) ≤ 1000000000 := hok.sz
  have HS := Lib.hid (arSize_any p mb l w h.box h.map HB.out.sz (by have := HB.out.n; omega) HB.out.x)
  obtain ⟨s, hs⟩ : ∃ s, s = arSz (arcOf l) := ⟨_, rfl⟩
  rw [← hs] at HS hsz ⊢
  have HSS := Lib.hid hs
  clear h hok hs
  go_enter Tryz.func23, Tryz.ntmps23
  go_wp2_with fail
  refine HS.out.mono ?_
  clear HS
  rintro e w1 ⟨rfl, hm⟩
  have HM1 := Lib.hid hm
  clear hm
  go_wp2_with fail
  refine (headA_any s (by omega) w1).mono ?_
  rintro e w2 ⟨rfl, hm⟩
  have HM2 := Lib.hid (HM1.out.step hm fun _ _ e => e)
  clear hm HM1
  have hrh : Hid (Rd (w2.alloc (.cells (headV s) 61)) (some ⟨w2.heap.size, 0, none⟩) (bts (arHead s))) := Lib.hid (by
    rw [head_bts s (by omega)]
    exact Rd.news w2 (headV s).toList 61)
  have HM3 : Hid (Mine.Mod (fun _ => False) w (w2.alloc (.cells (headV s) 61))) := Lib.hid (HM2.out.alloc _)
  unfold headV at hrh HM3 ⊢
  go_upto_region 4 with fail
  obtain ⟨q, hq⟩ : ∃ q, q = w2.heap.size := ⟨_, rfl⟩
  rw [← hq] at hrh ⊢
  clear hq
  generalize w2.alloc _ = w3 at *
  have HTB : Hid (∀ W, Mine.Mod (fun _ => False) w3 W → Calls Tryz.prog 51 #[.pointer (some ⟨p, 0, none⟩)] W fun e w' => ∃ g c, e = .returned (.slice (some ⟨g, 0, none⟩) (arTab (arcOf l)).length c) ∧ Mine.Own w' 5 1 (some ⟨g, 0, none⟩) (arTab (arcOf l)).length c (bts (arTab (arcOf l))) ∧ W.heap.size ≤ g ∧ Mine.Mod (fun _ => False) W w') := Lib.hid fun W hW => by
    have hM := HM3.out.step hW fun _ _ e => e
    have hk := HB.out.sz
    unfold arSz at hk
    exact table_any p mb l W (hM.at H.out.box id) (H.out.map.mod hM fun _ _ => id) (by omega) (by have := HB.out.n; omega) HB.out.x
  obtain ⟨T, hT⟩ : ∃ T, T = (arTab (arcOf l)).length := ⟨_, rfl⟩
  rw [← hT] at HTB
  have HT := Lib.hid hT
  have hTs : T + 14 ≤ 1000000000 := by
    have h1 := HSS.out
    unfold arSz at h1
    omega
  clear hT
  refine wp_region_ord (fun _ => True) [(0, 0), (0, 1), (3, 2), (3, 3), (3, 4), (0, 5)] (by kernel_rfl) (by kernel_rfl) ?_
  go_wp2_with (first
    | (refine ord_pure rfl rfl rfl (fun K hK => ?_); go_big_quiet_op; refine hK _ ?_; clear hK K)
                                                                | (refine ord_skip rfl rfl ?_; simp only [Act.put, List.setIfInBounds_toArray, List.set_cons_zero, List.set_cons_succ])
                                                                | (refine ord_held rfl rfl rfl (trivial) (fun K hK => ?_); apply Exists.intro; refine ⟨fun w' hs => ?_, hK _ ?_⟩; (revert hs; dsimp only; (try simp only [and_imp]); intros; go_simp; rfl); clear hK K)
                                                                | (refine ord_keep rfl rfl (trivial) (fun K hK => ?_))
                                                                | (refine ord_drop rfl rfl (fun K hK => ?_))
                                                                | (refine ord_nil ?_))
  refine (HTB.out _ (Mod.refl _ w3).drew).mono ?_
  clear HTB
  rintro e w4 ⟨g, c, rfl, hO, hg, hm⟩
  have HO := Lib.hid hO
  have HM4 : Hid (Mine.Mod (fun _ => False) w3 w4) := Lib.hid ((Mod.refl _ w3).drew.step hm fun _ _ e => e)
  clear hO hg hm
  go_wp2_with (first
    | (refine ord_pure rfl rfl rfl (fun K hK => ?_); go_big_quiet_op; refine hK _ ?_; clear hK K)
                                                                | (refine ord_skip rfl rfl ?_; simp only [Act.put, List.setIfInBounds_toArray, List.set_cons_zero, List.set_cons_succ])
                                                                | (refine ord_held rfl rfl rfl (trivial) (fun K hK => ?_); apply Exists.intro; refine ⟨fun w' hs => ?_, hK _ ?_⟩; (revert hs; dsimp only; (try simp only [and_imp]); intros; go_simp; rfl); clear hK K)
                                                                | (refine ord_keep rfl rfl (trivial) (fun K hK => ?_))
                                                                | (refine ord_drop rfl rfl (fun K hK => ?_))
                                                                | (refine ord_nil ?_))
  have hlh : (arHead s).length = 10 := rfl
  have HC := Lib.hid (concat2_any (some ⟨q, 0, none⟩) 10 (arHead s) (some ⟨g, 0, none⟩) c (arTab (arcOf l)) w4 (hrh.out.mod HM4.out fun _ _ => id) HO.out.rd (by rw [hlh, ← HT.out]; omega) w4.heap.size rfl)
  rw [hlh, ← HT.out] at HC
  clear hlh
  refine HC.out.mono ?_
  clear HC
  rintro e w5 ⟨a5, c5, rfl, hO5, hm5, hF5⟩
  have HO5 := Lib.hid hO5
  have HM5 : Hid (Mine.Mod (fun _ => False) w w5) := Lib.hid ((HM3.out.step HM4.out fun _ _ e => e).step hm5 fun _ _ e => e)
  have HF5 : Hid (∀ g, blk a5 = some g → w.heap.size ≤ g) := Lib.hid (fun g hg => Nat.le_trans (Nat.le_trans HM3.out.size HM4.out.size) (hF5 g hg))
  clear hO5 hm5 hF5 HO HM4 hrh HM3
  go_wp2_with (first
    | (refine ord_pure rfl rfl rfl (fun K hK => ?_); go_big_quiet_op; refine hK _ ?_; clear hK K)
                                                                | (refine ord_skip rfl rfl ?_; simp only [Act.put, List.setIfInBounds_toArray, List.set_cons_zero, List.set_cons_succ])
                                                                | (refine ord_held rfl rfl rfl (trivial) (fun K hK => ?_); apply Exists.intro; refine ⟨fun w' hs => ?_, hK _ ?_⟩; (revert hs; dsimp only; (try simp only [and_imp]); intros; go_simp; rfl); clear hK K)
                                                                | (refine ord_keep rfl rfl (trivial) (fun K hK => ?_))
                                                                | (refine ord_drop rfl rfl (fun K hK => ?_))
                                                                | (refine ord_nil ?_))
  refine (names_any p mb l w5 (HM5.out.at H.out.box id) (H.out.map.mod HM5.out fun _ _ => id) (by have := HB.out.n; omega)).mono ?_
  rintro e w6 ⟨na, nc, rfl, hr, _, hfr, hm⟩
  have HR := Lib.hid hr
  have HA5 : Hid (∀ b, blk a5 = some b → b < w5.heap.size) := Lib.hid HO5.out.lt
  have HFR : Hid (∀ b, blk na = some b → blk a5 ≠ some b) := Lib.hid (fun b hb e => by
    have h1 := hfr b hb
    have h2 := HA5.out b e
    omega)
  have HO6 := Lib.hid (HO5.out.mod hm fun _ _ => id)
  have HM6 := Lib.hid (HM5.out.step hm fun _ _ e => e)
  obtain ⟨n, hnn⟩ : ∃ n, n = l.length := ⟨_, rfl⟩
  have HN := Lib.hid hnn
  have hn38 : n < 2 ^ 38 := by have := HB.out.n; omega
  rw [← hnn]
  clear hr hfr hm hnn HA5 HO5
  go_wp2_with fail
  go_loopw [20, 4] (fun iv bv wr => ∃ (k : Nat) (a2 : Option Addr) (c2 : Nat) (x : List UInt8), k ≤ n ∧ iv = .int .i64 k ∧ bv = .slice a2 x.length c2 ∧ Hid (x = arHead s ++ arTab (arcOf l) ++ ((arcOf l).take k).flatMap (·.2)) ∧ Hid (Mine.Own wr 5 1 a2 x.length c2 (bts x)) ∧ Hid (Grow w6 a5 wr a2)) (fun iv _ _ => n - (intOf iv).toNat)
  case atStart =>
    refine ⟨0, a5, c5, arHead s ++ arTab (arcOf l), Nat.zero_le _, rfl, ?_, Lib.hid (by simp), Lib.hid ?_, Lib.hid (Grow.refl _ _)⟩
    · rw [List.length_append, ← HT.out]; rfl
    · rw [List.length_append, ← HT.out]; exact HO6.out
  case round =>
    obtain ⟨k, a2, c2, x, hk, rfl, rfl, hx, hO2, hG2⟩ := hrel
    have HMW : Hid (Mine.Mod (fun _ => False) w wr) := Lib.hid (HM6.out.step hG2.out.mod fun b hb e => by have := HF5.out b e; omega)
    by_cases hlt : k < n
    · have hkl : k < l.length := by rw [← HN.out]; exact hlt
      have hka : k < (arcOf l).length := by rw [arcOf_len]; exact hkl
      obtain ⟨nm, hnm⟩ : ∃ nm, nm = l[k].1 := ⟨_, rfl⟩
      obtain ⟨hx1, hx2⟩ := HB.out.x _ (List.getElem_mem hkl)
      obtain ⟨hf1, hf2⟩ := H.out.ents _ (List.getElem_mem hkl)
      have HRF : Hid (Rd wr (some ⟨l[k].2.g, 0, none⟩) (bts l[k].2.f)) := Lib.hid (hf2.mod HMW.out fun _ _ => id)
      have hlook := (H.out.map.mod HMW.out fun _ _ => id).look nm (by rw [hnm]; unfold maxLen; omega)
      rw [hnm, getA_mem H.out.map.up (List.getElem_mem hkl), ← hnm] at hlook
      simp only [fval, En.val] at hlook
      have hfs := files_succ (arcOf l) hka
      have hle := files_le (arcOf l) (k + 1)
      have hxs : (arcOf l)[k].2 = l[k].2.f := by simp [arcOf]
      rw [hxs] at hfs
      have hxl := congrArg List.length hx.out
      have hsl := HSS.out
      unfold arSz at hsl
      rw [hfs, List.length_append] at hle
      rw [List.length_append, List.length_append, show (arHead s).length = 10 from rfl] at hxl
      have HX2 : Hid (x ++ l[k].2.f = arHead s ++ arTab (arcOf l) ++ ((arcOf l).take (k + 1)).flatMap (·.2)) := Lib.hid (by rw [hfs, hx.out]; simp only [List.append_assoc])
      obtain ⟨b, o, rfl, hc⟩ := HR.out.mod hG2.out.mod (fun b hb e => HFR.out b hb e) k (.string nm) (by simp [sts, hnm, hkl])
      have p0 := cell_at (j := 0) (HMW.out.at H.out.box id) rfl
      generalize l[k].2.f = y at *
      generalize l[k].2.g = gk at *
      generalize l[k].2.c = ck at *
      obtain ⟨t, ht⟩ : ∃ t, t = x.length := ⟨_, rfl⟩
      obtain ⟨m, hm⟩ : ∃ m, m = y.length := ⟨_, rfl⟩
      rw [← ht] at hO2 hxl ⊢
      rw [← hm] at hlook hle
      have htm : t + m < 2 ^ 38 := by omega
      have HXT := Lib.hid ht
      have HY := Lib.hid hm
      clear hfs hle hxl hsl hx1 hx2 hf1 hf2 hnm ht hm hxs hx
      go_wp2_with (first
        | (at_builtin; refine wpL_append rfl (.tmp 24) (.tmp 30) 23 23 rfl ti24 rfl hO2.out rfl (Src.ofRd ti24.ht m ck HRF.out (by rw [HY.out]; simp [bts]) (bts_one y)) (by omega) (by unfold maxLen; omega) ?_; intro a3 c3 w3 hO3 hG3 _
           have HO3 := Lib.hid hO3; have HG3 := Lib.hid hG3; clear hO3 hG3))
      go_roundw
      case rel =>
        have hl2 : (x ++ y).length = t + m := by rw [List.length_append, ← HXT.out, ← HY.out]
        refine ⟨k + 1, a3, c3, x ++ y, hlt, by go_num, by rw [hl2], HX2, Lib.hid ?_, Lib.hid (hG2.out.trans HG3.out)⟩
        rw [hl2, bts_append]; exact HO3.out
      case measure => simp [intOf]; omega
    · obtain rfl : n = k := by omega
      have hta : (arcOf l).take n = arcOf l := List.take_of_length_le (by rw [arcOf_len, ← HN.out]; exact Nat.le_refl _)
      have hx2 : x = arBody (arcOf l) := by
        rw [hx.out, hta]
        unfold arBody
        rw [← HSS.out]
      have hbl : (arBody (arcOf l)).length + 4 = s := by
        have h1 := arcL_len (arcOf l)
        unfold arcL at h1
        rw [List.length_append, fourL_lenA] at h1
        rw [HSS.out, ← h1]
      rw [hx2] at hO2 ⊢
      have HF2 : Hid (∀ b, blk a2 = some b → w.heap.size ≤ b) := Lib.hid fun b hb => by
        rcases hG2.out.pos with e | ⟨b2, e, h2⟩
        · rw [e] at hb; exact HF5.out b hb
        · rw [e] at hb
          have hb' : b2 = b := by simpa [blk] using hb
          have h1 := HM6.out.size
          omega
      have HSE := Lib.hid (seal_any a2 c2 (arBody (arcOf l)) wr hO2.out.rd (by omega))
      obtain ⟨bl, hb0⟩ : ∃ bl, bl = (arBody (arcOf l)).length := ⟨_, rfl⟩
      rw [← hb0] at HSE hbl hO2 ⊢
      have HBE := Lib.hid hb0
      have HBL := Lib.hid hbl
      clear hbl hx2 hta hx hb0
      go_wp2_with fail
      refine HSE.out.mono ?_
      rintro e w8 ⟨a8, c8, rfl, hO8, hm8, hF8⟩
      obtain ⟨g8, rfl⟩ := hO8.atHead (by omega)
      obtain ⟨hW8, hc8⟩ := Wr.of hO8 (by rw [List.length_append, fourL_lenA, ← HBE.out]) (by omega)
      have HW8 : Hid (Wr w8 g8 (arcL (arcOf l))) := Lib.hid hW8
      have HM8 : Hid (Mine.Mod (fun _ => False) w w8) := Lib.hid (HMW.out.step hm8 fun _ _ e => e)
      have HG8 : Hid (w.heap.size ≤ g8) := Lib.hid (Nat.le_trans HMW.out.size (hF8 g8 rfl))
      have hcl := clip26_any (some ⟨g8, 0, none⟩) s c8 w8 (by rw [← HBL.out]; exact hc8)
      rw [← HBL.out] at hcl ⊢
      clear hW8 hm8 hF8 hc8 hO8 HSE
      go_wp2_with fail
      refine hcl.mono ?_
      rintro e w9 ⟨rfl, hw⟩
      obtain rfl : w8 = w9 := hw
      go_wp2_with fail
      go_ret
      refine ⟨g8, ?_, HW8.out, HG8.out, HM8.out⟩
      rw [← HBL.out]; rfl
end Go.Proofs.YtjoiaejbahdjkaaGreat
/-
  archive.Pack.
-/
namespace Go.Proofs.YtjoiaejbahdjkaaGreat
open Go Go.RowKit Go.Mine Go.Maps
set_option linter.unusedVariables false
set_option maxHeartbeats 8000000
set_option maxRecDepth 100000

/-- files handed in -/
structure FlsB (w : World) (a : Option Addr) (qs : List (Sl × List UInt8)) : Prop where
  hd : HdsB w a qs
  cap : ∀ q ∈ qs, q.2.length ≤ q.1.c ∧ q.2.length < 2 ^ 40
theorem FlsB.mod0 {w w' : World} {a : Option Addr} {qs : List (Sl × List UInt8)} (h : FlsB w a qs) (m : Mine.Mod (fun _ => False) w w') : FlsB w' a qs := ⟨h.hd.mod0 m, h.cap⟩
def filesOf (qs : List (Sl × List UInt8)) : List (List UInt8) := qs.map (·.2)
/-- an archive of the call's own -/
structure AOw (w0 w : World) (p : Nat) (l : Ens) : Prop where
  ex : ∃ mb, AAt w p mb l ∧ ∀ b, mb = some b → w0.heap.size ≤ b
  lo : w0.heap.size ≤ p
  ok : ArcOk 16777216 (arcOf l)
  md : Mine.Mod (fun _ => False) w0 w
theorem pack_bad {l : Arc} {b : List UInt8} {r : List (List UInt8)} (h : (putS l b).1 ≠ 0) : packGo l (b :: r) = putS l b := by rw [packGo, if_neg h]
theorem pack_on {l : Arc} {b : List UInt8} {r : List (List UInt8)} (h : (putS l b).1 = 0) : packGo l (b :: r) = packGo (putS l b).2 r := by rw [packGo, if_pos h]
theorem drop_cons {qs : List (Sl × List UInt8)} {k : Nat} (h : k < qs.length) : (filesOf qs).drop k = qs[k].2 :: (filesOf qs).drop (k + 1) := by
  have hl : k < (filesOf qs).length := by simpa [filesOf] using h
  rw [← List.getElem_cons_drop hl]
  simp [filesOf]
def PackP (bs : List (List UInt8)) (w : World) (e : Ending) (w' : World) : Prop :=
  ∃ a c, e = .returned (.tuple #[.slice a (packS bs).1.length c, .int .i64 ((packS bs).2 : Nat)]) ∧ WrOk w' a c (packS bs).1 ∧ (∀ b, blk a = some b → w.heap.size ≤ b) ∧ Mine.Mod (fun _ => False) w w'
theorem packP_any (a : Option Addr) (c : Nat) (qs : List (Sl × List UInt8)) (w : World) (h : FlsB w a qs) (hn : qs.length < 2 ^ 40) :
    Calls Tryz.prog 8 #[.slice a qs.length c] w (PackP (filesOf qs) w) := by
  have H := Lib.hid h
  clear h
  obtain ⟨n, hnn⟩ : ∃ n, n = qs.length := ⟨_, rfl⟩
  have HN := Lib.hid hnn
  rw [← hnn] at hn ⊢
  clear hnn
  go_enter Tryz.func8, Tryz.ntmps8
  go_wp2_with fail
  refine (new26_any w).mono ?_
  rintro e w1 ⟨rfl, hA, hm⟩
  have HO1 : Hid (AOw w w1 w.heap.size []) := Lib.hid ⟨⟨none, hA, fun b hb => by cases hb⟩, Nat.le_refl _, ArcOk.nil.mono (by decide), hm⟩
  obtain ⟨p, hp⟩ : ∃ p, p = w.heap.size := ⟨_, rfl⟩
  rw [← hp] at HO1 ⊢
  clear hA hm hp
  go_wp2_with fail
  go_loopw [11] (fun iv wr => ∃ (k : Nat) (l : Ens), k ≤ n ∧ iv = .int .i64 k ∧ Hid (AOw w wr p l) ∧ Hid (packGo (arcOf l) ((filesOf qs).drop k) = packGo [] (filesOf qs))) (fun iv _ => n - (intOf iv).toNat)
  case atStart => exact ⟨0, [], Nat.zero_le _, rfl, HO1, Lib.hid rfl⟩
  case round =>
    obtain ⟨k, l, hk, rfl, hA, hP⟩ := hrel
    by_cases hlt : k < n
    · have hkq : k < qs.length := by rw [← HN.out]; exact hlt
      obtain ⟨mb, hAA, hmb⟩ := hA.out.ex
      have HAA := Lib.hid hAA; have HMB := Lib.hid hmb
      have hPd := hP.out
      rw [drop_cons hkq] at hPd
      obtain ⟨hc1, hc2⟩ := H.out.cap _ (List.getElem_mem hkq)
      obtain ⟨b, o, rfl, hc⟩ := (H.out.hd.mod0 hA.out.md).get hkq
      have HR : Hid (Rd wr qs[k].1.a (bts qs[k].2)) := Lib.hid ((H.out.hd.mod0 hA.out.md).row _ (List.getElem_mem hkq)).2
      generalize qs[k].2 = y at *
      generalize qs[k].1.a = ra at *
      generalize qs[k].1.c = rc at *
      have HPU := Lib.hid (put_any26 p mb l ra rc y wr HAA.out hA.out.ok HR.out hc1 hc2)
      have HPD := Lib.hid hPd
      clear hAA hmb hPd hc1 hc2
      go_wp2_with fail
      refine HPU.out.mono ?_
      clear HPU
      rintro e w3 ⟨mb', l', rfl, hl', hAA', hq', hmb', hm⟩
      have HM3 : Hid (Mine.Mod (fun _ => False) w w3) := Lib.hid (hA.out.md.step hm fun b hb e => by
        rcases e with rfl | e
        · have := hA.out.lo; omega
        · have := HMB.out b e; omega)
      have HL' := Lib.hid hl'; have HAA' := Lib.hid hAA'
      have HMB' : Hid (∀ b, mb' = some b → w.heap.size ≤ b) := Lib.hid fun b hb => by
        rcases hmb' with rfl | h
        · exact HMB.out b hb
        · exact Nat.le_trans hA.out.md.size (h b hb)
      clear hl' hAA' hq' hmb' hm
      by_cases hz : (putS (arcOf l) y).1 = 0
      · rw [hz]
        have HP2 : Hid (packGo (arcOf l') ((filesOf qs).drop (k + 1)) = packGo [] (filesOf qs)) := Lib.hid (by rw [HL'.out, ← pack_on hz]; exact HPD.out)
        have HO2 : Hid (AOw w w3 p l') := Lib.hid ⟨⟨mb', HAA'.out, HMB'.out⟩, hA.out.lo, by rw [HL'.out]; exact putS_ok hA.out.ok, HM3.out⟩
        clear hz
        go_wp2_with fail
        go_roundw
        case rel => exact ⟨k + 1, l', hlt, by go_num, HO2, HP2⟩
        case measure => simp [intOf]; omega
      · have hps : packS (filesOf qs) = ([], (putS (arcOf l) y).1) := by
          have h1 := HPD.out
          rw [pack_bad hz] at h1
          unfold packS
          rw [← h1, if_neg hz]
        have HPS := Lib.hid hps
        clear hps
        obtain ⟨e0, he0⟩ : ∃ e0, e0 = (putS (arcOf l) y).1 := ⟨_, rfl⟩
        rw [← he0] at HPS hz ⊢
        have e1 : ((e0 : Int) != 0) = true := by simp; omega
        clear he0
        go_wp2_with fail
        have hlast : PackP (filesOf qs) w (.returned (.tuple #[.slice none 0 0, .int .i64 e0])) w3 := ⟨none, 0, by rw [HPS.out]; rfl, by rw [HPS.out]; exact .inr (Mine.Own.nil _ _ _), (fun b hb => by cases hb), HM3.out⟩
        refine bodyPost_ret (v := .tuple #[.slice none 0 0, .int .i64 e0]) ?_ rfl hlast
        simp [results, Tryz.results8, go_sem]
    · obtain rfl : n = k := by omega
      have hpk : packGo [] (filesOf qs) = (0, arcOf l) := by
        have h1 := hP.out
        rw [List.drop_of_length_le (by unfold filesOf; rw [List.length_map, ← HN.out]; exact Nat.le_refl _), packGo] at h1
        exact h1.symm
      have hps : packS (filesOf qs) = (arcL (arcOf l), 0) := by unfold packS; rw [hpk, if_pos rfl]
      have HPS := Lib.hid hps
      obtain ⟨mb, hAA, hmb⟩ := hA.out.ex
      have HBY := Lib.hid (bytesA_any p mb l wr hAA (hA.out.ok.mono (by decide)))
      have HMD := Lib.hid hA.out.md
      clear hps hpk hAA hmb
      obtain ⟨s, hs⟩ : ∃ s, s = arSz (arcOf l) := ⟨_, rfl⟩
      rw [← hs] at HBY
      have HS := Lib.hid hs
      clear hs
      go_wp2_with fail
      refine HBY.out.mono ?_
      rintro e w3 ⟨g, rfl, hW, hg, hm⟩
      have HW := Lib.hid hW; have HG := Lib.hid hg; have HM3 : Hid (Mine.Mod (fun _ => False) w w3) := Lib.hid (HMD.out.step hm fun _ _ e => e)
      clear hW hg hm
      go_wp2_with fail
      have hlast : PackP (filesOf qs) w (.returned (.tuple #[.slice (some ⟨g, 0, none⟩) s s, .int .i64 0])) w3 := ⟨some ⟨g, 0, none⟩, s, by rw [HPS.out]; show _ = Ending.returned (.tuple #[.slice _ (arcL (arcOf l)).length _, _]); rw [arcL_len, ← HS.out]; rfl, by
        rw [HPS.out]
        exact .inl ⟨g, rfl, HW.out, by rw [arcL_len, ← HS.out]⟩, fun b hb => by
        have hg : g = b := by simpa [blk] using hb
        rw [← hg]
        exact Nat.le_trans HMD.out.size HG.out, HM3.out⟩
      refine bodyPost_ret (v := .tuple #[.slice (some ⟨g, 0, none⟩) s s, .int .i64 0]) ?_ rfl hlast
      simp [results, Tryz.results8, go_sem]
end Go.Proofs.YtjoiaejbahdjkaaGreat
