/-
  The document's archive: a text's form, four bytes, a sum behind bytes.
-/
import Derived.Test.YtjoiaejbahdjkaaGreatAgB
import Derived.Test.YtjoiaejbahdjkaaGreatAgC
import Derived.Test.YtjoiaejbahdjkaaGreatDocH
import Derived.Test.YtjoiaejbahdjkaaGreatPut
import Derived.Test.YtjoiaejbahdjkaaGreatArcY
namespace Go.Proofs.YtjoiaejbahdjkaaGreat
open Go Go.RowKit Go.Mine
set_option linter.unusedVariables false
set_option maxHeartbeats 8000000
set_option maxRecDepth 100000
def NewB (w : World) (l : List UInt8) (e : Ending) (w' : World) : Prop :=
 ∃ a c, e = .returned (.slice a l.length c) ∧ Mine.Own w' 5 1 a l.length c (bts l) ∧ (∀ b, blk a = some b → w.heap.size ≤ b) ∧ Mod (fun _ => False) w w'
theorem text26_any (s : ByteArray) (w : World) (hs : s.size < 2 ^ 30) : Calls Tryz.prog 89 #[.string s] w (NewB w (arText s)) := by
 have HPT := Hi (fun W => put_any s.size W (by omega))
 have hcv := fun W => conv7 W s.data.toList
 have hsd : (⟨s.data.toList.toArray⟩ : ByteArray) = s := by simp
 rw [hsd] at hcv
 have hsz : s.data.toList.length = s.size := by rw [Lib.size_eq]
 rw [hsz] at hcv
 have e1 : (s.size : Int) % 18446744073709551616 = s.size := by omega
 obtain ⟨n, hn⟩ : ∃ n, n = s.size := ⟨_, rfl⟩
 rw [← hn] at HPT hcv hs e1
 have hnn := hn.symm
 have HN := Hi hn
 clear hsd hsz hn
 go_enter Tryz.func89, Tryz.ntmps89
 go_wp2_with fail
 refine (HPT.out w).mono ?_
 clear HPT
 rintro e w2 ⟨g, c, rfl, hO, hg, hm⟩
 have HO := Hi hO; have HG := Hi hg; have HM := Hi hm
 have hle := lebl_len64 n (by omega)
 obtain ⟨t, ht⟩ : ∃ t, t = (lebl n).length := ⟨_, rfl⟩
 rw [← ht] at HO hle ⊢
 have HT := Hi ht
 clear hO hg hm ht
 have HRB : Hid (Rd (Lib.bytesWorld w2 5 s) (some ⟨w2.heap.size, 0, none⟩) (bts s.data.toList)) := Hi (by
  have h := bytes_rd7 w2 5 s.data.toList
  rw [show (⟨s.data.toList.toArray⟩ : ByteArray) = s by simp] at h
  exact h)
 have HMB := Hi (bytes_mod7 w2 5 s)
 have hsl : Hid ((bts s.data.toList).length = n * 1) := Hi (by rw [HN.out, Lib.size_eq]; simp [bts])
 go_wp2_with (first
  |(at_builtin; refine wpL_append rfl (.tmp 8) (.tmp 10) 23 23 rfl ti24 rfl (HO.out.mod HMB.out fun _ _ => id) rfl (Src.ofRd ti24.ht n _ HRB.out hsl.out (bts_one _)) (by omega) (by unfold maxLen; omega) ?_; intro a3 c3 w3 hO3 hG3 _
    have HO3 := Hi hO3; have HG3 := Hi hG3; clear hO3 hG3))
 go_ret
 have hal : (arText s).length = t + n := by unfold arText; rw [List.length_append, tbs_len, ← HN.out, ← HT.out]
 have hab : bts (arText s) = bts (lebl n) ++ bts s.data.toList := by unfold arText tbs; rw [ByteArray.toList_eq, bts_append, ← HN.out]
 refine ⟨a3, c3, by rw [hal]; rfl, by rw [hal, hab]; exact HO3.out, fun b hb => ?_, (HM.out.step HMB.out fun _ _ e => e).step HG3.out.mod fun b hb e => ?_⟩
 ·rcases HG3.out.pos with e | ⟨b2, e, h2⟩
  ·rw [e] at hb
   have hb' : g = b := by simpa [blk] using hb
   have := HG.out
   omega
  ·rw [e] at hb
   have hb' : b2 = b := by simpa [blk] using hb
   have h1 := HM.out.size
   have h3 := HMB.out.size
   omega
 ·have hb' : g = b := by simpa [blk] using e
  have := HG.out
  omega
theorem four26_any (n : Nat) (hn : n < 4294967296) (w : World) : Calls Tryz.prog 25 #[.int .u32 n] w (NewB w (fourL n)) := by
 have HB := Hi (four_bts n hn)
 go_enter Tryz.func25, Tryz.ntmps25
 go_wp2
 go_loopw [4, 3] (fun iv bv wr => ∃ (k : Nat) (a c : _), k ≤ 4 ∧ iv = .int .i64 k ∧ bv = .slice a k c ∧ Hid (Mine.Own wr 5 1 a k c ((bts (fourL n)).take k)) ∧ Hid (∀ b, blk a = some b → w.heap.size ≤ b) ∧ Hid (Mod (fun _ => False) w wr)) (fun iv _ _ => 4 - (intOf iv).toNat)
 case atStart => exact ⟨0, none, 0, by omega, rfl, rfl, Hi (Mine.Own.nil _ _ _), Hi (fun b hb => by cases hb), Hi (Mod.refl _ _)⟩
 case round =>
  obtain ⟨k, a, c, hk, rfl, rfl, hO, hF, hM⟩ := hrel
  rw [HB.out] at hO
  have hc5 : k = 0 ∨ k = 1 ∨ k = 2 ∨ k = 3 ∨ k = 4 := by omega
  rcases hc5 with rfl | rfl | rfl | rfl | rfl
  ·skip
   go_wp2_with (first
    |(at_builtin; refine wpL_appendN (us := [_]) rfl (.tmp 9) (.tmp 16) 23 rfl ti24 rfl hO.out rfl rfl rfl (by omega) (by unfold maxLen; omega) ?_; intro a3 c3 w3 hO3 hG3 _
      have HO3 := Hi hO3; have HG3 := Hi hG3; clear hO3 hG3))
   go_roundw
   case rel =>
    refine ⟨1, a3, c3, by decide, rfl, rfl, Hi ?_, Hi (fun b hb => ?_), Hi (hM.out.step HG3.out.mod fun b hb e => ?_)⟩
    ·rw [HB.out]; exact HO3.out
    ·rcases HG3.out.pos with e | ⟨b2, e, h2⟩
     ·rw [e] at hb; exact hF.out b hb
     ·rw [e] at hb
      have hb' : b2 = b := by simpa [blk] using hb
      have h1 := hM.out.size
      omega
    ·have := hF.out b e; omega
   case measure => simp [intOf]
  ·skip
   go_wp2_with (first
    |(at_builtin; refine wpL_appendN (us := [_]) rfl (.tmp 9) (.tmp 16) 23 rfl ti24 rfl hO.out rfl rfl rfl (by omega) (by unfold maxLen; omega) ?_; intro a3 c3 w3 hO3 hG3 _
      have HO3 := Hi hO3; have HG3 := Hi hG3; clear hO3 hG3))
   go_roundw
   case rel =>
    refine ⟨2, a3, c3, by decide, rfl, rfl, Hi ?_, Hi (fun b hb => ?_), Hi (hM.out.step HG3.out.mod fun b hb e => ?_)⟩
    ·rw [HB.out]; exact HO3.out
    ·rcases HG3.out.pos with e | ⟨b2, e, h2⟩
     ·rw [e] at hb; exact hF.out b hb
     ·rw [e] at hb
      have hb' : b2 = b := by simpa [blk] using hb
      have h1 := hM.out.size
      omega
    ·have := hF.out b e; omega
   case measure => simp [intOf]
  ·skip
   go_wp2_with (first
    |(at_builtin; refine wpL_appendN (us := [_]) rfl (.tmp 9) (.tmp 16) 23 rfl ti24 rfl hO.out rfl rfl rfl (by omega) (by unfold maxLen; omega) ?_; intro a3 c3 w3 hO3 hG3 _
      have HO3 := Hi hO3; have HG3 := Hi hG3; clear hO3 hG3))
   go_roundw
   case rel =>
    refine ⟨3, a3, c3, by decide, rfl, rfl, Hi ?_, Hi (fun b hb => ?_), Hi (hM.out.step HG3.out.mod fun b hb e => ?_)⟩
    ·rw [HB.out]; exact HO3.out
    ·rcases HG3.out.pos with e | ⟨b2, e, h2⟩
     ·rw [e] at hb; exact hF.out b hb
     ·rw [e] at hb
      have hb' : b2 = b := by simpa [blk] using hb
      have h1 := hM.out.size
      omega
    ·have := hF.out b e; omega
   case measure => simp [intOf]
  ·skip
   go_wp2_with (first
    |(at_builtin; refine wpL_appendN (us := [_]) rfl (.tmp 9) (.tmp 16) 23 rfl ti24 rfl hO.out rfl rfl rfl (by omega) (by unfold maxLen; omega) ?_; intro a3 c3 w3 hO3 hG3 _
      have HO3 := Hi hO3; have HG3 := Hi hG3; clear hO3 hG3))
   go_roundw
   case rel =>
    refine ⟨4, a3, c3, by decide, rfl, rfl, Hi ?_, Hi (fun b hb => ?_), Hi (hM.out.step HG3.out.mod fun b hb e => ?_)⟩
    ·rw [HB.out]; exact HO3.out
    ·rcases HG3.out.pos with e | ⟨b2, e, h2⟩
     ·rw [e] at hb; exact hF.out b hb
     ·rw [e] at hb
      have hb' : b2 = b := by simpa [blk] using hb
      have h1 := hM.out.size
      omega
    ·have := hF.out b e; omega
   case measure => simp [intOf]
  ·go_wp2_with fail
   go_ret
   exact ⟨a, c, rfl, by rw [HB.out]; exact hO.out, hF.out, hM.out⟩
theorem seal26_any (a : Option Addr) (c : Nat) (l : List UInt8) (w : World) (hr : Rd w a (bts l)) (hl : l.length < 2 ^ 38) : Calls Tryz.prog 56 #[.slice a l.length c] w (NewB w (l ++ fourL (crcL l))) := by
 have HR := Hi hr
 clear hr
 have HCL := Hi (crcL_lt l)
 obtain ⟨n, hn⟩ : ∃ n, n = l.length := ⟨_, rfl⟩
 have HN := Hi hn
 rw [← hn] at hl ⊢
 clear hn
 go_enter Tryz.func56, Tryz.ntmps56
 go_wp2_with (first
  |(at_builtin; refine wpL_append0 rfl (.tmp 4) (.tmp 5) 23 23 rfl ti24 rfl rfl (Src.ofRd ti24.ht n c HR.out (by rw [HN.out]; simp [bts]) (bts_one l)) (by omega) (by unfold maxLen; omega) ?_; intro a2 c2 w2 hO2 hM2 hF2 _
    have HO2 := Hi hO2; have HM2 := Hi hM2; have HF2 := Hi hF2; clear hO2 hM2 hF2))
 have HS := Hi (sumR_any a l c w2 (HR.out.mod HM2.out fun _ _ => id) (by rw [← HN.out]; omega))
 rw [← HN.out] at HS
 refine HS.out.mono ?_
 rintro e w3 ⟨rfl, hw⟩
 obtain rfl : w2 = w3 := hw
 clear HS
 obtain ⟨x, hx⟩ : ∃ x, x = crcL l := ⟨_, rfl⟩
 rw [← hx] at HCL ⊢
 have HX := Hi hx
 clear hx
 go_wp2_with fail
 refine (four26_any x HCL.out w2).mono ?_
 rintro e w4 ⟨a4, c4, rfl, hO4, hF4, hm4⟩
 have HO4 := Hi hO4; have HM4 := Hi hm4
 clear hO4 hF4 hm4
 rw [show (fourL x).length = 4 from rfl] at *
 go_wp2_with (first
  |(at_builtin; refine wpL_append rfl (.tmp 7) (.tmp 10) 23 23 rfl ti24 rfl (HO2.out.mod HM4.out fun _ _ => id) rfl (Src.ofRd ti24.ht 4 c4 HO4.out.rd (by simp [bts]; rfl) (bts_one _)) (by omega) (by unfold maxLen; omega) ?_; intro a5 c5 w5 hO5 hG5 _
    have HO5 := Hi hO5; have HG5 := Hi hG5; clear hO5 hG5))
 go_ret
 have hal : (l ++ fourL (crcL l)).length = n + 4 := by rw [List.length_append, ← HN.out]; rfl
 refine ⟨a5, c5, by rw [hal]; rfl, by rw [hal, bts_append, ← HX.out]; exact HO5.out, fun b hb => ?_, (HM2.out.step HM4.out fun _ _ e => e).step HG5.out.mod fun b hb e => ?_⟩
 ·rcases HG5.out.pos with e | ⟨b2, e, h2⟩
  ·rw [e] at hb; exact HF2.out b hb
  ·rw [e] at hb
   have hb' : b2 = b := by simpa [blk] using hb
   have h1 := HM2.out.size
   have h3 := HM4.out.size
   omega
 ·have := HF2.out b e; omega
end Go.Proofs.YtjoiaejbahdjkaaGreat
/-
  The document's archive: its table, its size, its bytes.
-/
namespace Go.Proofs.YtjoiaejbahdjkaaGreat
open Go Go.RowKit Go.Mine
set_option linter.unusedVariables false
set_option maxHeartbeats 8000000
set_option maxRecDepth 100000
def hvals (l : Ens) : List Value := l.map fun q => q.2.val
structure RAt (w : World) (p : Nat) (na : Option Addr) (nc : Nat) (fa : Option Addr) (fc : Nat) (l : Ens) : Prop where
 box : w.heap[p]? = some (.cells #[.slice na l.length nc, .slice fa l.length fc] 83 (0, 0))
 nm : Rd w na (sts (l.map (·.1)))
 fl : Rd w fa (hvals l)
 ents : EntOk w l
theorem RAt.mod0 {w w' : World} {p : Nat} {na fa : Option Addr} {nc fc : Nat} {l : Ens} (h : RAt w p na nc fa fc l) (m : Mod (fun _ => False) w w') : RAt w' p na nc fa fc l :=
 ⟨m.at h.box id, h.nm.mod m fun _ _ => id, h.fl.mod m fun _ _ => id, fun q hq => ⟨(h.ents q hq).1, (h.ents q hq).2.mod m fun _ _ => id⟩⟩
theorem RAt.name {w : World} {p : Nat} {na fa : Option Addr} {nc fc : Nat} {l : Ens} (h : RAt w p na nc fa fc l) {k : Nat} (hk : k < l.length) : ∃ b o, na = some ⟨b, o, none⟩ ∧ w.cell? ⟨b, o + k, none⟩ = some (.string l[k].1) :=
 h.nm k _ (by simp [sts, hk])
theorem RAt.file {w : World} {p : Nat} {na fa : Option Addr} {nc fc : Nat} {l : Ens} (h : RAt w p na nc fa fc l) {k : Nat} (hk : k < l.length) : ∃ b o, fa = some ⟨b, o, none⟩ ∧ w.cell? ⟨b, o + k, none⟩ = some (.slice (some ⟨l[k].2.g, 0, none⟩) l[k].2.f.length l[k].2.c) :=
 h.fl k l[k].2.val (by simp [hvals, hk])
theorem tableR26_any (p : Nat) (na fa : Option Addr) (nc fc : Nat) (l : Ens) (w : World) (h : RAt w p na nc fa fc l) (hb : Bnds l) :
 Calls Tryz.prog 55 #[.pointer (some ⟨p, 0, none⟩)] w (NewB w (arTab (arcOf l))) := by
 have H := Hi h
 have HX := Hi hb.x
 have hl38 : (arTab (arcOf l)).length < 2 ^ 38 := by have := hb.sz; unfold arSz at this; omega
 have HL := Hi hl38
 have hn := hb.n
 have a0 := cell_at (j := 0) h.box rfl
 obtain ⟨n, hnn⟩ : ∃ n, n = l.length := ⟨_, rfl⟩
 have HN := Hi hnn
 have HBX : Hid (w.heap[p]? = some (.cells #[.slice na n nc, .slice fa n fc] 83 (0, 0))) := Hi (by rw [hnn]; exact h.box)
 rw [← hnn] at hn a0
 have e1 : (n : Int) % 18446744073709551616 = n := by omega
 clear h hb hl38 hnn
 go_enter Tryz.func55, Tryz.ntmps55
 go_wp2_with fail
 refine (put_any n w (by omega)).mono ?_
 rintro e w1 ⟨g1, c1, rfl, hO1, hg1, hm1⟩
 have HO1 := Hi hO1; have HM1 := Hi hm1; have HG1 : Hid (∀ b, blk (some (⟨g1, 0, none⟩ : Addr)) = some b → w.heap.size ≤ b) := Hi (fun b hb => by
  have hb' : g1 = b := by simpa [blk] using hb
  omega)
 clear hO1 hm1 hg1 a0
 go_wp2_with fail
 go_loopw [4, 3] (fun iv bv wr => ∃ (k : Nat) (a2 : Option Addr) (c2 : Nat) (x : List UInt8), k ≤ n ∧ iv = .int .i64 k ∧ bv = .slice a2 x.length c2 ∧ Hid (x = lebl n ++ ((arcOf l).take k).flatMap arEnt) ∧ Hid (Mine.Own wr 5 1 a2 x.length c2 (bts x)) ∧ Hid (∀ b, blk a2 = some b → w.heap.size ≤ b) ∧ Hid (Mod (fun _ => False) w wr)) (fun iv _ _ => n - (intOf iv).toNat)
 case atStart => exact ⟨0, some ⟨g1, 0, none⟩, c1, lebl n, Nat.zero_le _, rfl, rfl, Hi (by simp), HO1, HG1, HM1⟩
 case round =>
  obtain ⟨k, a2, c2, x, hk, rfl, rfl, hx, hO2, hF2, hM2⟩ := hrel
  have hbx := hM2.out.at HBX.out id
  have a0 := cell_at (j := 0) hbx rfl
  have a1 := cell_at (j := 1) hbx rfl
  clear hbx
  by_cases hlt : k < n
  ·have hkl : k < l.length := by rw [← HN.out]; exact hlt
   have hak : k < (arcOf l).length := by rw [arcOf_len]; exact hkl
   obtain ⟨b1, o1, rfl, n0⟩ := H.out.name hkl
   obtain ⟨b2, o2, rfl, f0⟩ := H.out.file hkl
   obtain ⟨hx1, hx2⟩ := HX.out _ (List.getElem_mem hkl)
   have hst := tab_step (arcOf l) hak
   have hle := tab_le (arcOf l) (k + 1)
   have ha1 : (arcOf l)[k].1 = l[k].1 := by simp [arcOf]
   have ha2 : (arcOf l)[k].2.length = l[k].2.f.length := by simp [arcOf]
   rw [arcOf_len, ← HN.out] at hst hle
   rw [ha1, ha2, ← hx.out] at hst
   obtain ⟨nm, hnm⟩ : ∃ nm, nm = l[k].1 := ⟨_, rfl⟩
   obtain ⟨m, hm⟩ : ∃ m, m = l[k].2.f.length := ⟨_, rfl⟩
   rw [← hnm, ← hm] at hst
   rw [← hm] at f0 hx2
   rw [← hnm] at n0 hx1
   generalize hz : lebl n ++ ((arcOf l).take (k + 1)).flatMap arEnt = z at *
   have HZ := Hi hz
   have hl2 := congrArg List.length hst
   rw [List.length_append, List.length_append] at hl2
   have hl38 := HL.out
   have HST := Hi hst
   have e2 : (m : Int) % 18446744073709551616 = m := by omega
   obtain ⟨t, ht⟩ : ∃ t, t = x.length := ⟨_, rfl⟩
   obtain ⟨u, hu⟩ : ∃ u, u = (arText nm).length := ⟨_, rfl⟩
   obtain ⟨v, hv⟩ : ∃ v, v = (lebl m).length := ⟨_, rfl⟩
   rw [← ht] at hO2 ⊢
   rw [← ht, ← hu, ← hv] at hl2
   have htuv : t + u + v < 2 ^ 38 := by omega
   have HTX := Hi ht; have HU := Hi hu; have HV := Hi hv
   have HT := Hi (text26_any nm wr (by omega))
   have n0' := hM2.out.cell n0 id
   clear n0
   generalize l[k].2.g = gk at *
   generalize l[k].2.c = ck at *
   have F0 := Hi f0
   clear f0
   clear hz hst hle ha1 ha2 hnm hm hl2 hl38 ht hu hv hx hx1
   go_wp2_with fail
   refine HT.out.mono ?_
   clear HT
   rintro e w4 ⟨a4, c4, rfl, hO4, hF4, hm4⟩
   rw [← HU.out] at hO4 ⊢
   have HO4 := Hi hO4; have HM4 := Hi hm4
   clear hO4 hF4 hm4
   go_wp2_with (first
    |(at_builtin; refine wpL_append rfl (.tmp 21) (.tmp 29) 23 23 rfl ti24 rfl (hO2.out.mod HM4.out fun _ _ => id) rfl (Src.ofRd ti24.ht u c4 HO4.out.rd (by rw [HU.out]; simp [bts]) (bts_one _)) (by omega) (by unfold maxLen; omega) ?_; intro a5 c5 w5 hO5 hG5 _
      have HO5 := Hi hO5; have HG5 := Hi hG5
      have HM5 : Hid (Mod (fun _ => False) w w5) := Hi ((hM2.out.step HM4.out fun _ _ e => e).step hG5.mod fun b hb e => by have := hF2.out b e; omega)
      have HF5 : Hid (∀ b, blk a5 = some b → w.heap.size ≤ b) := Hi (fun b hb => by
       rcases hG5.pos with e | ⟨b2, e, h2⟩
       ·rw [e] at hb; exact hF2.out b hb
       ·rw [e] at hb
        have hb' : b2 = b := by simpa [blk] using hb
        have h1 := hM2.out.size
        have h3 := HM4.out.size
        omega)
      have hbx := HM5.out.at HBX.out id
      have a1' := cell_at (j := 1) hbx rfl
      have f5 := HM5.out.cell F0.out id
      clear hO5 hG5 hbx))
   refine (put_any m w5 (by omega)).mono ?_
   rintro e w6 ⟨g6, c6, rfl, hO6, hg6, hm6⟩
   rw [← HV.out] at hO6 ⊢
   have HO6 := Hi hO6; have HM6 := Hi hm6
   clear hO6 hg6 hm6
   go_wp2_with (first
    |(at_builtin; refine wpL_append rfl (.tmp 31) (.tmp 41) 23 23 rfl ti24 rfl (HO5.out.mod HM6.out fun _ _ => id) rfl (Src.ofRd ti24.ht v c6 HO6.out.rd (by rw [HV.out]; simp [bts]) (bts_one _)) (by omega) (by unfold maxLen; omega) ?_; intro a7 c7 w7 hO7 hG7 _
      have HO7 := Hi hO7; have HG7 := Hi hG7; clear hO7 hG7))
   go_roundw
   case rel =>
    have hzl : z.length = t + u + v := by rw [HST.out, List.length_append, List.length_append, ← HTX.out, ← HU.out, ← HV.out]
    refine ⟨k + 1, a7, c7, z, hlt, by go_num, by rw [hzl], Hi HZ.out.symm, Hi ?_, Hi (fun b hb => ?_), Hi ((HM5.out.step HM6.out fun _ _ e => e).step HG7.out.mod fun b hb e => ?_)⟩
    ·rw [hzl, HST.out, bts_append, bts_append]; exact HO7.out
    ·rcases HG7.out.pos with e | ⟨b2, e, h2⟩
     ·rw [e] at hb; exact HF5.out b hb
     ·rw [e] at hb
      have hb' : b2 = b := by simpa [blk] using hb
      have h1 := HM5.out.size
      have h3 := HM6.out.size
      omega
    ·have := HF5.out b e; omega
   case measure => simp [intOf]; omega
  ·obtain rfl : n = k := by omega
   have hta : (arcOf l).take n = arcOf l := List.take_of_length_le (by rw [arcOf_len, ← HN.out]; exact Nat.le_refl _)
   have hxe : x = arTab (arcOf l) := by rw [hx.out, hta]; unfold arTab; rw [arcOf_len, ← HN.out]
   subst hxe
   clear hx hta
   have HQ : Hid (Mine.Own wr 5 1 a2 (arTab (arcOf l)).length c2 (bts (arTab (arcOf l)))) := hO2
   clear hO2
   go_wp2_with fail
   go_ret
   exact ⟨a2, c2, rfl, HQ.out, hF2.out, hM2.out⟩
end Go.Proofs.YtjoiaejbahdjkaaGreat
/-
  The document's archive: its size, its bytes.
-/
namespace Go.Proofs.YtjoiaejbahdjkaaGreat
open Go Go.RowKit Go.Mine
set_option linter.unusedVariables false
set_option maxHeartbeats 8000000
set_option maxRecDepth 100000
structure OwB (w0 w : World) (a : Option Addr) (c : Nat) (x : List UInt8) : Prop where
 own : Mine.Own w 5 1 a x.length c (bts x)
 fr : ∀ b, blk a = some b → w0.heap.size ≤ b
 md : Mod (fun _ => False) w0 w
theorem OwB.mod0 {w0 w w' : World} {a : Option Addr} {c : Nat} {x : List UInt8} (h : OwB w0 w a c x) (m : Mod (fun _ => False) w w') : OwB w0 w' a c x := ⟨h.own.mod m fun _ _ => id, h.fr, h.md.step m fun _ _ e => e⟩
theorem OwB.grow {w0 w w' : World} {a a' : Option Addr} {c c' n m : Nat} {x y : List UInt8} (h : OwB w0 w a c x) (G : Grow w a w' a') (O : Mine.Own w' 5 1 a' (n + m) c' (bts x ++ bts y)) (hn : n = x.length) (hm : m = y.length) : OwB w0 w' a' c' (x ++ y) := by
 subst hn hm
 refine ⟨by rw [List.length_append, bts_append]; exact O, fun b hb => ?_, h.md.step G.mod fun b hb e => ?_⟩
 ·rcases G.pos with e | ⟨b2, e, h2⟩
  ·rw [e] at hb; exact h.fr b hb
  ·rw [e] at hb
   have hb' : b2 = b := by simpa [blk] using hb
   have h1 := h.md.size
   omega
 ·have := h.fr b e; omega
theorem sizeR26_any (p : Nat) (na fa : Option Addr) (nc fc : Nat) (l : Ens) (w : World) (h : RAt w p na nc fa fc l) (hb : Bnds l) :
 Calls Tryz.prog 46 #[.pointer (some ⟨p, 0, none⟩)] w fun e w' => e = .returned (.int .i64 (arSz (arcOf l) : Nat)) ∧ Mod (fun _ => False) w w' := by
 have H := Hi h
 have HT := Hi (tableR26_any p na fa nc fc l w h hb)
 have hl2 : (arTab (arcOf l)).length + arLen (arcOf l) + 14 = arSz (arcOf l) := by unfold arSz; omega
 have hl38 := hb.sz
 have hn := hb.n
 obtain ⟨n, hnn⟩ : ∃ n, n = l.length := ⟨_, rfl⟩
 have HN := Hi hnn
 have HBX : Hid (w.heap[p]? = some (.cells #[.slice na n nc, .slice fa n fc] 83 (0, 0))) := Hi (by rw [hnn]; exact h.box)
 rw [← hnn] at hn
 obtain ⟨t, ht⟩ : ∃ t, t = (arTab (arcOf l)).length := ⟨_, rfl⟩
 obtain ⟨s, hs⟩ : ∃ s, s = arLen (arcOf l) := ⟨_, rfl⟩
 rw [← ht, ← hs] at hl2
 rw [← hl2] at hl38 ⊢
 have HTT := Hi ht; have HS := Hi hs
 clear h hb hnn ht hs hl2
 go_enter Tryz.func46, Tryz.ntmps46
 go_wp2_with fail
 refine HT.out.mono ?_
 clear HT
 rintro e w1 ⟨a1, c1, rfl, _, _, hm1⟩
 rw [← HTT.out]
 have HM1 := Hi hm1
 clear hm1
 go_wp2_with fail
 go_loopw [4, 3] (fun iv bv wr => ∃ (k z : Nat), k ≤ n ∧ iv = .int .i64 k ∧ bv = .int .i64 ((t + 14 + z : Nat) : Int) ∧ Hid (z = (((arcOf l).take k).flatMap (·.2)).length) ∧ Hid (Mod (fun _ => False) w wr)) (fun iv _ _ => n - (intOf iv).toNat)
 case atStart => exact ⟨0, 0, Nat.zero_le _, rfl, by congr 1; omega, Hi (by simp), HM1⟩
 case round =>
  obtain ⟨k, z, hk, rfl, rfl, hz, hM2⟩ := hrel
  have hbx := hM2.out.at HBX.out id
  have a1 := cell_at (j := 1) hbx rfl
  clear hbx
  by_cases hlt : k < n
  ·have hkl : k < l.length := by rw [← HN.out]; exact hlt
   have hak : k < (arcOf l).length := by rw [arcOf_len]; exact hkl
   obtain ⟨b2, o2, rfl, f0⟩ := (H.out.mod0 hM2.out).file hkl
   have hst := congrArg List.length (files_succ (arcOf l) hak)
   have hle := files_le (arcOf l) (k + 1)
   rw [List.length_append, ← hz.out] at hst
   have ha2 : (arcOf l)[k].2.length = l[k].2.f.length := by simp [arcOf]
   rw [ha2] at hst
   obtain ⟨m, hm⟩ : ∃ m, m = l[k].2.f.length := ⟨_, rfl⟩
   rw [← hm] at hst f0
   rw [hst, ← HS.out] at hle
   have HST := Hi hst
   generalize l[k].2.g = gk at *
   generalize l[k].2.c = ck at *
   clear hst ha2 hm hz
   go_wp2_with fail
   go_roundw
   case rel => exact ⟨k + 1, z + m, hlt, by go_num, by congr 1; go_num, Hi HST.out.symm, hM2⟩
   case measure => simp [intOf]; omega
  ·obtain rfl : n = k := by omega
   have hta : (arcOf l).take n = arcOf l := List.take_of_length_le (by rw [arcOf_len, ← HN.out]; exact Nat.le_refl _)
   have hze : z = s := by rw [hz.out, hta, arLen_flat, HS.out]
   subst hze
   clear hz hta
   go_wp2_with fail
   go_ret
   exact ⟨by show Ending.returned (.int .i64 ((t : Int) + 14 + z)) = _; rw [show ((t + z + 14 : Nat) : Int) = (t : Int) + 14 + z by omega], hM2.out⟩
theorem bytesR26_any (p : Nat) (na fa : Option Addr) (nc fc : Nat) (l : Ens) (w : World) (h : RAt w p na nc fa fc l) (hok : ArcOk 1000000000 (arcOf l)) :
 Calls Tryz.prog 24 #[.pointer (some ⟨p, 0, none⟩)] w (NewB w (arcL (arcOf l))) := by
 have HB := Hi (hok.bnds (by decide))
 have H := Hi h
 have hsz : arSz (arcOf l) ≤ 1000000000 := hok.sz
 obtain ⟨n, hnn⟩ : ∃ n, n = l.length := ⟨_, rfl⟩
 have HN := Hi hnn
 have hn : n < 2 ^ 37 := by rw [hnn]; exact HB.out.n
 have HBX : Hid (w.heap[p]? = some (.cells #[.slice na n nc, .slice fa n fc] 83 (0, 0))) := Hi (by rw [hnn]; exact h.box)
 have HSZ := Hi (fun (W : World) (hW : Mod (fun _ => False) w W) => sizeR26_any p na fa nc fc l W (h.mod0 hW) HB.out)
 have HTB := Hi (fun (W : World) (hW : Mod (fun _ => False) w W) => tableR26_any p na fa nc fc l W (h.mod0 hW) HB.out)
 obtain ⟨s, hs⟩ : ∃ s, s = arSz (arcOf l) := ⟨_, rfl⟩
 rw [← hs] at hsz HSZ
 have HS := Hi hs
 have e1 : (s : Int) % 4294967296 = s := by omega
 clear h hok hnn hs
 go_enter Tryz.func24, Tryz.ntmps24
 have HO0 : Hid (Mine.Own (w.alloc (.cells #[.int .u8 115, .int .u8 105, .int .u8 98, .int .u8 121, .int .u8 97, .int .u8 1] 5)) 5 1 (some ⟨w.heap.size, 0, none⟩) 6 6 (bts arMagic)) := Hi (by
  have h := Own.made w 5 1 #[.int .u8 115, .int .u8 105, .int .u8 98, .int .u8 121, .int .u8 97, .int .u8 1] 6 6 (by decide) (by decide) rfl
  exact h)
 have HM0 : Hid (Mod (fun _ => False) w (w.alloc (.cells #[.int .u8 115, .int .u8 105, .int .u8 98, .int .u8 121, .int .u8 97, .int .u8 1] 5))) := Hi ((Mod.refl _ w).alloc _)
 go_wp2_with fail
 obtain ⟨g0, hg0⟩ : ∃ g0, g0 = w.heap.size := ⟨_, rfl⟩
 rw [← hg0] at HO0 ⊢
 have HG0 := Hi hg0
 clear hg0
 generalize w.alloc (.cells #[.int .u8 115, .int .u8 105, .int .u8 98, .int .u8 121, .int .u8 97, .int .u8 1] 5) = w1 at *
 refine (HSZ.out w1 HM0.out).mono ?_
 clear HSZ
 rintro e w2 ⟨rfl, hm2⟩
 have HM2 := Hi (HM0.out.step hm2 fun _ _ e => e)
 have HO2 := Hi (HO0.out.mod hm2 fun _ _ => id)
 clear hm2 HM0 HO0
 go_wp2_with fail
 refine (four26_any s (by omega) w2).mono ?_
 rintro e w3 ⟨a3, c3, rfl, hO3, _, hm3⟩
 have HO3 := Hi hO3; have HM3 := Hi hm3
 clear hO3 hm3
 rw [show (fourL s).length = 4 from rfl] at *
 go_wp2_with (first
  |(at_builtin; refine wpL_append rfl (.tmp 8) (.tmp 12) 23 23 rfl ti24 rfl (HO2.out.mod HM3.out fun _ _ => id) rfl (Src.ofRd ti24.ht 4 c3 HO3.out.rd (by simp [bts]; rfl) (bts_one _)) (by omega) (by unfold maxLen; omega) ?_; intro a4 c4 w4 hO4 hG4 _
    have HO4 : Hid (OwB w w4 a4 c4 (arHead s)) := Hi (by
     have h0 : OwB w w3 (some ⟨g0, 0, none⟩) 6 arMagic := ⟨HO2.out.mod HM3.out fun _ _ => id, (fun b hb => by
      have hb' : g0 = b := by simpa [blk] using hb
      have := HG0.out; omega), HM2.out.step HM3.out fun _ _ e => e⟩
     exact h0.grow hG4 hO4 rfl rfl)
    clear hO4 hG4))
 refine (HTB.out w4 HO4.out.md).mono ?_
 clear HTB
 rintro e w5 ⟨a5, c5, rfl, hO5, _, hm5⟩
 obtain ⟨t, ht⟩ : ∃ t, t = (arTab (arcOf l)).length := ⟨_, rfl⟩
 rw [← ht] at hO5 ⊢
 have HT := Hi ht
 have htl : t ≤ 1000000000 := by
  have h1 := HS.out
  unfold arSz at h1
  omega
 have HO5 := Hi hO5; have HM5 := Hi hm5
 have HO6 := Hi (HO4.out.mod0 hm5)
 have HW6 : Hid (Mine.Own w5 5 1 a4 10 c4 (bts (arHead s))) := HO6.out.own
 clear hO5 hm5 ht
 go_wp2_with (first
  |(at_builtin; refine wpL_append rfl (.tmp 14) (.tmp 16) 23 23 rfl ti24 rfl HW6.out rfl (Src.ofRd ti24.ht t c5 HO5.out.rd (by rw [HT.out]; simp [bts]) (bts_one _)) (by omega) (by unfold maxLen; omega) ?_; intro a7 c7 w7 hO7 hG7 _
    have HO7 : Hid (OwB w w7 a7 c7 (arHead s ++ arTab (arcOf l))) := Hi (HO6.out.grow hG7 hO7 rfl HT.out)
    clear hO7 hG7))
 go_loopw [4, 3] (fun iv bv wr => ∃ (k : Nat) (a2 : Option Addr) (c2 : Nat) (x : List UInt8), k ≤ n ∧ iv = .int .i64 k ∧ bv = .slice a2 x.length c2 ∧ Hid (x = arHead s ++ arTab (arcOf l) ++ ((arcOf l).take k).flatMap (·.2)) ∧ Hid (OwB w wr a2 c2 x)) (fun iv _ _ => n - (intOf iv).toNat)
 case atStart => exact ⟨0, a7, c7, arHead s ++ arTab (arcOf l), Nat.zero_le _, rfl, by rw [List.length_append, ← HT.out]; rfl, Hi (by simp), HO7⟩
 case round =>
  obtain ⟨k, a2, c2, x, hk, rfl, rfl, hx, hO⟩ := hrel
  have hbx := hO.out.md.at HBX.out id
  have a1 := cell_at (j := 1) hbx rfl
  clear hbx
  by_cases hlt : k < n
  ·have hkl : k < l.length := by rw [← HN.out]; exact hlt
   have hka : k < (arcOf l).length := by rw [arcOf_len]; exact hkl
   obtain ⟨b2, o2, rfl, f0⟩ := (H.out.mod0 hO.out.md).file hkl
   have HRF : Hid (Rd wr (some ⟨l[k].2.g, 0, none⟩) (bts l[k].2.f)) := Hi ((H.out.mod0 hO.out.md).ents _ (List.getElem_mem hkl)).2
   have hfs := files_succ (arcOf l) hka
   have hle := files_le (arcOf l) (k + 1)
   have hxs : (arcOf l)[k].2 = l[k].2.f := by simp [arcOf]
   rw [hxs] at hfs
   have hxl := congrArg List.length hx.out
   have hsl := HS.out
   unfold arSz at hsl
   rw [hfs, List.length_append] at hle
   rw [List.length_append, List.length_append, show (arHead s).length = 10 from rfl] at hxl
   have HX2 : Hid (x ++ l[k].2.f = arHead s ++ arTab (arcOf l) ++ ((arcOf l).take (k + 1)).flatMap (·.2)) := Hi (by rw [hfs, hx.out]; simp only [List.append_assoc])
   generalize l[k].2.f = y at *
   generalize l[k].2.g = gk at *
   generalize l[k].2.c = ck at *
   obtain ⟨u, hu⟩ : ∃ u, u = x.length := ⟨_, rfl⟩
   obtain ⟨m, hm⟩ : ∃ m, m = y.length := ⟨_, rfl⟩
   have HOW : Hid (Mine.Own wr 5 1 a2 u c2 (bts x)) := Hi (by rw [hu]; exact hO.out.own)
   rw [← hu] at hxl ⊢
   rw [← hm] at f0 hle
   have htm : u + m < 2 ^ 38 := by omega
   have HXT := Hi hu
   have HY := Hi hm
   clear hfs hle hxl hsl hu hm hxs hx
   go_wp2_with (first
    |(at_builtin; refine wpL_append rfl (.tmp 27) (.tmp 34) 23 23 rfl ti24 rfl HOW.out rfl (Src.ofRd ti24.ht m ck HRF.out (by rw [HY.out]; simp [bts]) (bts_one y)) (by omega) (by unfold maxLen; omega) ?_; intro a3 c3 w3 hO3 hG3 _
      have HO3 : Hid (OwB w w3 a3 c3 (x ++ y)) := Hi (hO.out.grow hG3 hO3 HXT.out HY.out); clear hO3 hG3))
   go_roundw
   case rel => exact ⟨k + 1, a3, c3, x ++ y, hlt, by go_num, by rw [List.length_append, ← HXT.out, ← HY.out], HX2, HO3⟩
   case measure => simp [intOf]; omega
  ·obtain rfl : n = k := by omega
   have hta : (arcOf l).take n = arcOf l := List.take_of_length_le (by rw [arcOf_len, ← HN.out]; exact Nat.le_refl _)
   have hx2 : x = arBody (arcOf l) := by
    rw [hx.out, hta]
    unfold arBody
    rw [← HS.out]
   subst hx2
   have hbl : (arBody (arcOf l)).length + 4 = s := by
    have h1 := arcL_len (arcOf l)
    unfold arcL at h1
    rw [List.length_append, fourL_lenA] at h1
    rw [HS.out, ← h1]
   have HSE := Hi (seal26_any a2 c2 (arBody (arcOf l)) wr hO.out.own.rd (by omega))
   clear hbl hta hx
   go_wp2_with fail
   refine HSE.out.mono ?_
   rintro e w8 ⟨a8, c8, rfl, hO8, hF8, hm8⟩
   have HO8 := Hi hO8; have HM8 : Hid (Mod (fun _ => False) w w8) := Hi (hO.out.md.step hm8 fun _ _ e => e)
   have HF8 : Hid (∀ b, blk a8 = some b → w.heap.size ≤ b) := Hi (fun b hb => Nat.le_trans hO.out.md.size (hF8 b hb))
   clear hO8 hF8 hm8 HSE
   go_wp2_with fail
   go_ret
   refine ⟨a8, c8, ?_, HO8.out, HF8.out, HM8.out⟩
   rw [show (arcL (arcOf l)).length = (arBody (arcOf l)).length + (fourL (crcL (arBody (arcOf l)))).length by unfold arcL; rw [List.length_append]]
   rfl
end Go.Proofs.YtjoiaejbahdjkaaGreat
