/-
  An archive's table: both sides.
-/
import Derived.Test.YtjoiaejbahdjkaaGreatOpI
import Derived.Test.YtjoiaejbahdjkaaGreatAgC
namespace Go.Proofs.YtjoiaejbahdjkaaGreat
open Go Go.RowKit Go.Mine Go.Maps
set_option linter.unusedVariables false
set_option maxHeartbeats 8000000
set_option maxRecDepth 100000
def tabE : Nat → Arc → List Value
 | _, [] => []
 | a, (x, f) :: r => .string x :: .int .i64 a :: .int .i64 f.length :: tabE (a + f.length) r
theorem tabE_len : ∀ (a : Nat) (l : Arc), (tabE a l).length = l.length * 3
 | _, [] => rfl
 | a, (x, f) :: r => by rw [tabE, List.length_cons, List.length_cons, List.length_cons, tabE_len, List.length_cons]; omega
theorem tabE_snoc : ∀ (a : Nat) (l : Arc) (x : ByteArray) (f : List UInt8), tabE a (l ++ [(x, f)]) = tabE a l ++ [.string x, .int .i64 ((a + (l.flatMap (·.2)).length : Nat) : Int), .int .i64 f.length]
 | a, [], x, f => by simp [tabE]
 | a, (y, g) :: r, x, f => by
   rw [List.cons_append, tabE, tabE_snoc, tabE, List.flatMap_cons, List.length_append, Nat.add_assoc]
   rfl
theorem tabE_get : ∀ (a : Nat) (l : Arc) (j : Nat) (hj : j < l.length), (tabE a l)[3 * j]? = some (.string l[j].1) ∧ (tabE a l)[3 * j + 1]? = some (.int .i64 ((a + ((l.take j).flatMap (·.2)).length : Nat) : Int)) ∧ (tabE a l)[3 * j + 2]? = some (.int .i64 l[j].2.length)
 | a, (x, f) :: r, 0, hj => ⟨rfl, by simp [tabE], rfl⟩
 | a, (x, f) :: r, j + 1, hj => by
   obtain ⟨h1, h2, h3⟩ := tabE_get (a + f.length) r j (by simpa using hj)
   refine ⟨?_, ?_, ?_⟩
   ·rw [tabE, show 3 * (j + 1) = 3 * j + 1 + 1 + 1 from by omega]
    simpa using h1
   ·rw [tabE, show 3 * (j + 1) + 1 = (3 * j + 1) + 1 + 1 + 1 from by omega]
    simp only [List.getElem?_cons_succ, List.take_succ_cons, List.flatMap_cons, List.length_append]
    rw [h2, Nat.add_assoc]
   ·rw [tabE, show 3 * (j + 1) + 2 = (3 * j + 2) + 1 + 1 + 1 from by omega]
    simpa using h3
def TabW (w : World) (e : TypeId) (a : Option Addr) (xs : List Value) : Prop := xs = [] ∨ ∃ g cur, a = some ⟨g, 0, none⟩ ∧ w.heap[g]? = some (.cells cur e (0, 0)) ∧ cur.toList.take xs.length = xs
theorem TabW.of {w : World} {e : TypeId} {a : Option Addr} {n c : Nat} {xs : List Value} (h : Mine.Own w e 3 a n c xs) : TabW w e a xs := by
 obtain ⟨h1, h2⟩ := h
 rcases h2 with ⟨_, h3, _⟩ | ⟨b, cur, e1, h3, _, _, _, h7⟩
 ·exact .inl (List.eq_nil_of_length_eq_zero (by rw [h1, h3]))
 ·exact .inr ⟨b, cur, e1, h3, by rw [h1]; exact h7⟩
def TabP (t : TypeId) (l : Arc) (w : World) (e : Ending) (w' : World) : Prop :=
 ∃ a c, e = .returned (.slice a l.length c) ∧ TabW w' t a (tabE (10 + (arTab l).length) l) ∧ (∀ b, blk a = some b → w.heap.size ≤ b) ∧ Mine.Mod (fun _ => False) w w'
theorem tiEp : TI Tryz.prog 74 79 3 32 := TI.mk' (z := .agg #[.string ByteArray.empty, .int .i64 0, .int .i64 0]) (by kernel_rfl) (by kernel_rfl) rfl (by omega)
theorem tiEr : TI Tryz.prog 76 80 3 32 := TI.mk' (z := .agg #[.string ByteArray.empty, .int .i64 0, .int .i64 0]) (by kernel_rfl) (by kernel_rfl) rfl (by omega)
theorem clipE_any (a : Option Addr) (n c : Nat) (w : World) (hc : n ≤ c) :
 Calls Tryz.prog 73 #[.slice a n c] w fun e w' => e = .returned (.slice a n n) ∧ w = w' := by
 have h1 : ¬ ((n : Int) < 0) := by omega
 go_enter Tryz.func73, Tryz.ntmps73
 go_wp2
 go_ret
 exact ⟨rfl, rfl⟩
theorem own_nc {w : World} {e : TypeId} {k : Nat} {a : Option Addr} {n c : Nat} {xs : List Value} (h : Mine.Own w e k a n c xs) : n ≤ c := by
 rcases h.2 with ⟨_, h2, h3⟩ | ⟨_, _, _, _, h, _⟩
 ·omega
 ·exact h
theorem tabA_any (p : Nat) (mb : Option Nat) (l : Ens) (w : World) (h : AAt w p mb l) (hok : ArcOk 16777216 (arcOf l)) :
 Calls Tryz.prog 41 #[.pointer (some ⟨p, 0, none⟩)] w (TabP 79 (arcOf l) w) := by
 have H := Hi h
 have HB := Hi (hok.bnds (by decide))
 have hsz : arSz (arcOf l) ≤ 16777216 := hok.sz
 have hT : (arTab (arcOf l)).length ≤ 16777216 := by unfold arSz at hsz; omega
 have HTB := Hi (table_any p mb l w h.box h.map (by omega) (by have := HB.out.n; omega) HB.out.x)
 have HAL : Hid (arLen (arcOf l) ≤ 16777216) := Hi (by unfold arSz at hsz; omega)
 obtain ⟨T, hTe⟩ : ∃ T, T = (arTab (arcOf l)).length := ⟨_, rfl⟩
 have HT := Hi hTe
 rw [← hTe] at hT HTB
 obtain ⟨n, hnn⟩ : ∃ n, n = l.length := ⟨_, rfl⟩
 have HN := Hi hnn
 have hn38 : n < 2 ^ 38 := by have := HB.out.n; omega
 clear h hok hsz hTe hnn
 go_enter Tryz.func41, Tryz.ntmps41
 go_wp2_with fail
 refine HTB.out.mono ?_
 clear HTB
 rintro e w1 ⟨g1, c1, rfl, _, _, hm⟩
 have HM1 := Hi hm
 clear hm
 go_wp2_with fail
 refine (names_any p mb l w1 (HM1.out.at H.out.box id) (H.out.map.mod HM1.out fun _ _ => id) (by rw [← HN.out]; omega)).mono ?_
 rintro e w6 ⟨na, nc, rfl, hr, _, hfr, hm⟩
 have HR := Hi hr
 have HFR := Hi (fun b hb => Nat.le_of_lt (hfr b hb))
 have HM6 := Hi (HM1.out.step hm fun _ _ e => e)
 have HNL : Hid (∀ b, blk na = some b → sts (l.map (·.1)) ≠ [] → b < w6.heap.size) := Hi (fun b hb h0 => HR.out.lt h0 b hb)
 rw [← HN.out]
 clear hr hfr hm HM1
 go_wp2_with fail
 go_loopw [17, 3, 4] (fun iv av tv wr => ∃ (k a : Nat) (ta : Option Addr) (tc : Nat), k ≤ n ∧ iv = .int .i64 k ∧ av = .int .i64 a ∧ tv = .slice ta k tc ∧ Hid (a = 10 + T + (((arcOf l).take k).flatMap (·.2)).length) ∧ Hid (Mine.Own wr 79 3 ta k tc (tabE (10 + T) ((arcOf l).take k))) ∧ Hid (∀ b, blk ta = some b → w6.heap.size ≤ b) ∧ Hid (Mine.Mod (fun _ => False) w6 wr)) (fun iv _ _ _ => n - (intOf iv).toNat)
 case atStart => exact ⟨0, 10 + T, none, 0, Nat.zero_le _, rfl, by go_num, rfl, Hi (by simp), Hi (Mine.Own.nil _ _ _), Hi (fun b hb => by cases hb), Hi (Mod.refl _ _)⟩
 case round =>
  obtain ⟨k, a, ta, tc, hk, rfl, rfl, rfl, hA, hO, hF, hM⟩ := hrel
  have HMW := Hi (HM6.out.step hM.out fun _ _ e => e)
  have ha : a ≤ 2 ^ 40 := by
   have h1 := hA.out
   have h2 := files_le (arcOf l) k
   have h3 := HAL.out
   omega
  by_cases hlt : k < n
  ·have hkl : k < l.length := by rw [← HN.out]; exact hlt
   have hka : k < (arcOf l).length := by rw [arcOf_len]; exact hkl
   obtain ⟨nm, hnm⟩ : ∃ nm, nm = l[k].1 := ⟨_, rfl⟩
   obtain ⟨hx1, hx2⟩ := HB.out.x _ (List.getElem_mem hkl)
   have hlook := (H.out.map.mod HMW.out fun _ _ => id).look nm (by rw [hnm]; unfold maxLen; omega)
   rw [hnm, getA_mem H.out.map.up (List.getElem_mem hkl), ← hnm] at hlook
   simp only [fval, En.val] at hlook
   have hak : (arcOf l)[k] = (nm, l[k].2.f) := by simp [arcOf, hnm]
   have HX2 : Hid (tabE (10 + T) ((arcOf l).take (k + 1)) = tabE (10 + T) ((arcOf l).take k) ++ [.string nm, .int .i64 a, .int .i64 l[k].2.f.length]) := Hi (by
    rw [List.take_succ_eq_append_getElem hka, hak, tabE_snoc, hA.out])
   have HA2 : Hid (a + l[k].2.f.length = 10 + T + (((arcOf l).take (k + 1)).flatMap (·.2)).length) := Hi (by
    rw [files_succ _ hka, List.length_append, hak, hA.out]; simp only; omega)
   obtain ⟨b, o, rfl, hc⟩ := (HR.out.mod hM.out fun _ _ => id) k (.string nm) (by simp [sts, hnm, hkl])
   have p0 := cell_at (j := 0) (HMW.out.at H.out.box id) rfl
   generalize l[k].2.f = y at *
   generalize l[k].2.g = gk at *
   generalize l[k].2.c = ck at *
   obtain ⟨m, hm⟩ : ∃ m, m = y.length := ⟨_, rfl⟩
   rw [← hm] at hlook hx2 HX2 HA2
   clear hm hx1 hnm hak
   go_wp2_with (first
    |(at_builtin; refine wpL_appendN (us := [.string nm, .int .i64 a, .int .i64 m]) rfl (.tmp 28) (.tmp 33) 74 rfl tiEp rfl hO.out rfl rfl rfl (by omega) (by unfold maxLen; omega) ?_; intro a3 c3 w3 hO3 hG3 _
      have HO3 := Hi hO3; have HG3 := Hi hG3; clear hO3 hG3))
   go_roundw
   case rel =>
    refine ⟨k + 1, a + m, a3, c3, hlt, by go_num, by go_num, rfl, HA2, Hi (by rw [HX2.out]; exact HO3.out), Hi fun b hb => ?_, Hi (hM.out.step HG3.out.mod fun b hb e => by have := hF.out b e; omega)⟩
    rcases HG3.out.pos with e | ⟨b2, e, h2⟩
    ·rw [e] at hb; exact hF.out b hb
    ·rw [e] at hb
     have hb' : b2 = b := by simpa [blk] using hb
     have h1 := hM.out.size
     omega
   case measure => simp [intOf]; omega
  ·obtain rfl : n = k := by omega
   have hta : (arcOf l).take n = arcOf l := List.take_of_length_le (by rw [arcOf_len, ← HN.out]; exact Nat.le_refl _)
   have hCL := clipE_any ta n tc wr (own_nc hO.out)
   go_wp2_with fail
   refine hCL.mono ?_
   rintro e w9 ⟨rfl, hw⟩
   obtain rfl : wr = w9 := hw
   go_wp2_with fail
   go_ret
   exact ⟨ta, n, by rw [arcOf_len, ← HN.out]; rfl, by rw [← HT.out, ← hta]; exact TabW.of hO.out, fun b hb => Nat.le_trans HM6.out.size (hF.out b hb), HMW.out⟩
theorem tabR_any (p : Nat) (na fa : Option Addr) (nc fc : Nat) (l : Ens) (w : World) (h : RAt w p na nc fa fc l) (hok : ArcOk 16777216 (arcOf l)) :
 Calls Tryz.prog 42 #[.pointer (some ⟨p, 0, none⟩)] w (TabP 80 (arcOf l) w) := by
 have H := Hi h
 have HB := Hi (hok.bnds (by decide))
 have hsz : arSz (arcOf l) ≤ 16777216 := hok.sz
 have hT : (arTab (arcOf l)).length ≤ 16777216 := by unfold arSz at hsz; omega
 have HTB := Hi (tableR26_any p na fa nc fc l w h HB.out)
 have HAL : Hid (arLen (arcOf l) ≤ 16777216) := Hi (by unfold arSz at hsz; omega)
 obtain ⟨T, hTe⟩ : ∃ T, T = (arTab (arcOf l)).length := ⟨_, rfl⟩
 have HT := Hi hTe
 obtain ⟨n, hnn⟩ : ∃ n, n = l.length := ⟨_, rfl⟩
 have HN := Hi hnn
 have hn38 : n < 2 ^ 38 := by have := HB.out.n; omega
 have HBX : Hid (w.heap[p]? = some (.cells #[.slice na n nc, .slice fa n fc] 83 (0, 0))) := Hi (by rw [hnn]; exact h.box)
 clear h hok hsz hnn
 go_enter Tryz.func42, Tryz.ntmps42
 go_wp2_with fail
 refine HTB.out.mono ?_
 clear HTB
 rintro e w6 ⟨g1, c1, rfl, _, _, hm⟩
 have HM6 := Hi hm
 rw [← hTe]
 rw [← hTe] at hT
 clear hm hTe
 go_wp2_with fail
 go_loopw [5, 4, 3] (fun iv av tv wr => ∃ (k a : Nat) (ta : Option Addr) (tc : Nat), k ≤ n ∧ iv = .int .i64 k ∧ av = .int .i64 a ∧ tv = .slice ta k tc ∧ Hid (a = 10 + T + (((arcOf l).take k).flatMap (·.2)).length) ∧ Hid (Mine.Own wr 80 3 ta k tc (tabE (10 + T) ((arcOf l).take k))) ∧ Hid (∀ b, blk ta = some b → w6.heap.size ≤ b) ∧ Hid (Mine.Mod (fun _ => False) w6 wr)) (fun iv _ _ _ => n - (intOf iv).toNat)
 case atStart => exact ⟨0, 10 + T, none, 0, Nat.zero_le _, rfl, by go_num, rfl, Hi (by simp), Hi (Mine.Own.nil _ _ _), Hi (fun b hb => by cases hb), Hi (Mod.refl _ _)⟩
 case round =>
  obtain ⟨k, a, ta, tc, hk, rfl, rfl, rfl, hA, hO, hF, hM⟩ := hrel
  have HMW := Hi (HM6.out.step hM.out fun _ _ e => e)
  have hbx := HMW.out.at HBX.out id
  have p0 := cell_at (j := 0) hbx rfl
  have p1 := cell_at (j := 1) hbx rfl
  clear hbx
  have ha : a ≤ 2 ^ 40 := by
   have h1 := hA.out
   have h2 := files_le (arcOf l) k
   have h3 := HAL.out
   omega
  by_cases hlt : k < n
  ·have hkl : k < l.length := by rw [← HN.out]; exact hlt
   have hka : k < (arcOf l).length := by rw [arcOf_len]; exact hkl
   obtain ⟨hx1, hx2⟩ := HB.out.x _ (List.getElem_mem hkl)
   obtain ⟨b1, o1, rfl, n0⟩ := (H.out.mod0 HMW.out).name hkl
   obtain ⟨b2, o2, rfl, f0w⟩ := H.out.file hkl
   have f0 := HMW.out.cell f0w id
   obtain ⟨nm, hnm⟩ : ∃ nm, nm = l[k].1 := ⟨_, rfl⟩
   have hak : (arcOf l)[k] = (nm, l[k].2.f) := by simp [arcOf, hnm]
   have HX2 : Hid (tabE (10 + T) ((arcOf l).take (k + 1)) = tabE (10 + T) ((arcOf l).take k) ++ [.string nm, .int .i64 a, .int .i64 l[k].2.f.length]) := Hi (by
    rw [List.take_succ_eq_append_getElem hka, hak, tabE_snoc, hA.out])
   have HA2 : Hid (a + l[k].2.f.length = 10 + T + (((arcOf l).take (k + 1)).flatMap (·.2)).length) := Hi (by
    rw [files_succ _ hka, List.length_append, hak, hA.out]; simp only; omega)
   rw [← hnm] at n0
   generalize l[k].2.f = y at *
   generalize l[k].2.g = gk at *
   generalize l[k].2.c = ck at *
   obtain ⟨m, hm⟩ : ∃ m, m = y.length := ⟨_, rfl⟩
   rw [← hm] at f0 f0w hx2 HX2 HA2
   clear hm hx1 hnm hak
   go_upto_region 8 with fail
   have HWD : Hid (Mine.Mod (fun _ => False) wr (wr.alloc (.cells #[.string nm, .int .i64 a, .int .i64 m] 80)).drew) := Hi ((Mod.refl _ wr).alloc _).drew
   refine wp_region_ord (fun w' => w'.cell? ⟨p, 0, none⟩ = some (.slice (some ⟨b1, o1, none⟩) n nc) ∧ w'.cell? ⟨p, 1, none⟩ = some (.slice (some ⟨b2, o2, none⟩) n fc) ∧ w'.cell? ⟨b1, o1 + k, none⟩ = some (.string nm) ∧ w'.cell? ⟨b2, o2 + k, none⟩ = some (.slice (some ⟨gk, 0, none⟩) m ck)) [(0, 0), (0, 1), (0, 2), (0, 3), (1, 4), (0, 5), (0, 6), (1, 7), (0, 8), (0, 9), (0, 10), (0, 11), (1, 12), (0, 13), (0, 14), (1, 15), (0, 16), (0, 17), (3, 18), (3, 19), (0, 20)] (by kernel_rfl) (by kernel_rfl) ?_
   go_wp2_with (first
    |(refine ord_drop rfl rfl (fun K hK => ?_); refine wpO_append (.tmp 22) (.tmp 40) 76 76 rfl tiEr rfl (hO.out.mod HWD.out fun _ _ => id) rfl (Src.ofRd tiEr.ht 1 1 (Rd.dr (Rd.news wr [.string nm, .int .i64 a, .int .i64 m] 80)) (by simp) (by simp [Value.oneCell'])) (by omega) (by unfold maxLen; omega) ?_; intro a3 c3 w3 hO3 hG3 _
      have HO3 := Hi hO3; have HG3 := Hi hG3; clear hO3 hG3
      have HMD : Hid (Mine.Mod (fun b => blk ta = some b) wr w3) := Hi ((HWD.out.mono fun _ _ e => e.elim).step HG3.out.mod fun _ _ e => e)
      have HMX : Hid (Mine.Mod (fun _ => False) w w3) := Hi (HMW.out.step HMD.out fun b hb e => by have h1 := hF.out b e; have h2 := HM6.out.size; omega)
      have hbx' := HMX.out.at HBX.out id
      have p0' := cell_at (j := 0) hbx' rfl; have p1' := cell_at (j := 1) hbx' rfl; have f0' := HMX.out.cell f0w id
      clear hbx' f0w
      refine hK _ _ ?_; clear hK K)
    |(refine ord_pure rfl rfl rfl (fun K hK => ?_); go_big_quiet_op; refine hK _ ?_; clear hK K)
    |(refine ord_held rfl rfl rfl (⟨p0, p1, n0, f0⟩) (fun K hK => ?_); apply Exists.intro; refine ⟨fun w' hs => ?_, hK _ ?_⟩; (revert hs; dsimp only; (try simp only [and_imp]); intros; go_simp; rfl); clear hK K)
    |(refine ord_drop rfl rfl (fun K hK => ?_))
    |(refine ord_nil ?_))
   go_roundw
   case rel =>
    refine ⟨k + 1, a + m, a3, c3, hlt, by go_num, by go_num, rfl, HA2, Hi (by rw [HX2.out]; exact HO3.out), Hi fun b hb => ?_, Hi (hM.out.step HMD.out fun b hb e => by have h1 := hF.out b e; omega)⟩
    rcases HG3.out.pos with e | ⟨b2, e, h2⟩
    ·rw [e] at hb; exact hF.out b hb
    ·rw [e] at hb
     have hb' : b2 = b := by simpa [blk] using hb
     have h1 := hM.out.size
     have h3 := HWD.out.size
     omega
   case measure => simp [intOf]; omega
  ·obtain rfl : n = k := by omega
   have hta : (arcOf l).take n = arcOf l := List.take_of_length_le (by rw [arcOf_len, ← HN.out]; exact Nat.le_refl _)
   go_wp2_with fail
   go_ret
   exact ⟨ta, tc, by rw [arcOf_len, ← HN.out]; rfl, by rw [← HT.out, ← hta]; exact TabW.of hO.out, fun b hb => Nat.le_trans HM6.out.size (hF.out b hb), HMW.out⟩
end Go.Proofs.YtjoiaejbahdjkaaGreat
/-
  Rows that are written over.
-/
namespace Go.Proofs.YtjoiaejbahdjkaaGreat
open Go Go.RowKit Go.Mine
set_option linter.unusedVariables false
structure RU (F : Nat → Prop) (w : World) (a : Option Addr) (hs : List Value) (n m : Nat) : Prop where
 len : hs.length = n
 rd : Rd w a hs
 hd : ∀ b, blk a = some b → F b
 row : ∀ i, i < n → ∃ x c, hs[i]? = some (.slice x m c) ∧ (0 < m → ∃ b o, x = some ⟨b, o, none⟩ ∧ F b ∧ blk a ≠ some b ∧ Uf w b ∧ ∀ j, j < m → ∃ v, w.cell? ⟨b, o + j, none⟩ = some v)
theorem RU.of {F0 F : Nat → Prop} {w0 w : World} {e : TypeId} {a : Option Addr} {c m : Nat} {hs : List Value} {rows : List (List ByteArray)} (h : LL F0 w0 w e a c hs (rows.map sts)) (hm : ∀ r ∈ rows, r.length = m) (hF : ∀ b, F0 b ∨ w0.heap.size ≤ b → b < w.heap.size → F b) : RU F w a hs rows.length m := by
 refine ⟨by rw [h.len, List.length_map], h.own.rd, fun b hb => hF b (.inr (h.fr b hb)) (h.own.lt b hb), fun i hi => ?_⟩
 obtain ⟨x, c, h1, h2, h3⟩ := h.row i (by simpa using hi)
 rw [List.getElem_map] at h1 h2
 have hl := hm _ (List.getElem_mem hi)
 rw [sts_length, hl] at h1
 refine ⟨x, c, h1, fun h0 => ?_⟩
 obtain ⟨b, o, rfl, _⟩ := h2 0 (.string (rows[i][0]'(by omega))) (by simp [sts, hl, h0])
 obtain ⟨f1, f2, f3, f4⟩ := h3 b rfl
 refine ⟨b, o, rfl, hF b (.inl f1) f2, f3, f4, fun j hj => ?_⟩
 obtain ⟨b', o', e, hc⟩ := h2 j (.string (rows[i][j]'(by omega))) (by simp [sts, hl, hj])
 cases e
 exact ⟨_, hc⟩
theorem LL.far {S : Nat → Prop} {w0 w w' : World} {e : TypeId} {a : Option Addr} {c : Nat} {hs : List Value} {xs : List (List Value)} (h : LL (fun b => w0.heap.size ≤ b) w0 w e a c hs xs) (m : Mod S w w') (hS : ∀ b, S b → b < w0.heap.size) : LLR w' a hs xs :=
 ⟨h.len, h.own.rd.mod m fun b hb e => by have h1 := hS b e; have h2 := h.fr b hb; omega, fun j hj => by
  obtain ⟨x, c, h1, h2, h3⟩ := h.row j hj
  exact ⟨x, c, h1, h2.mod m fun b hb e => by have h4 := hS b e; have h5 := (h3 b hb).1; omega⟩⟩
theorem RU.mod {F S : Nat → Prop} {w w' : World} {a : Option Addr} {hs : List Value} {n m : Nat} (h : RU F w a hs n m) (mm : Mod S w w') (hS : ∀ b, F b → ¬ S b) : RU F w' a hs n m :=
 ⟨h.len, h.rd.mod mm fun b hb => hS b (h.hd b hb), h.hd, fun i hi => by
  obtain ⟨x, c, h1, h2⟩ := h.row i hi
  refine ⟨x, c, h1, fun h0 => ?_⟩
  obtain ⟨b, o, e, f1, f3, f4, f5⟩ := h2 h0
  refine ⟨b, o, e, f1, f3, f4.mod mm (hS b f1), fun j hj => ?_⟩
  obtain ⟨v, hv⟩ := f5 j hj
  exact ⟨v, mm.cell hv (hS b f1)⟩⟩
theorem cell_some {w : World} {b o : Nat} {cs : Array Value} {t : TypeId} {fz : Nat × Nat} {v : Value} (h : w.heap[b]? = some (.cells cs t fz)) (hv : w.cell? ⟨b, o, none⟩ = some v) : o < cs.size := by
 cases hj : cs[o]? with
 | some u => exact (Array.getElem?_eq_some_iff.1 hj).1
 | none =>
   unfold World.cell? at hv
   simp [h, hj] at hv
theorem RU.store {F : Nat → Prop} {w : World} {a : Option Addr} {hs : List Value} {n m b o : Nat} (h : RU F w a hs n m) (hb : blk a ≠ some b) (u : Value) : RU F (w.setCell ⟨b, o, none⟩ u) a hs n m := by
 have mm : Mod (fun x => x = b) w (w.setCell ⟨b, o, none⟩ u) := (Mod.refl (fun x => x = b) w).setCell (p := ⟨b, o, none⟩) (fun _ => rfl) _
 refine ⟨h.len, h.rd.mod mm (fun x hx e => hb (by rw [← show x = b from e]; exact hx)), h.hd, fun i hi => ?_⟩
 obtain ⟨x, c, h1, h2⟩ := h.row i hi
 refine ⟨x, c, h1, fun h0 => ?_⟩
 obtain ⟨b', o', e, f1, f3, ⟨cur, t, f4⟩, f5⟩ := h2 h0
 by_cases hbb : b' = b
 ·subst hbb
  have h9 := heap_setCell_at (j := o) u f4
  refine ⟨b', o', e, f1, f3, ⟨_, t, h9⟩, fun j hj => ?_⟩
  obtain ⟨v, hv⟩ := f5 j hj
  have h10 := cell_some f4 hv
  exact ⟨_, cell_at (j := o' + j) h9 (Array.getElem?_eq_getElem (by rw [Array.size_setIfInBounds]; exact h10))⟩
 ·refine ⟨b', o', e, f1, f3, ⟨cur, t, mm.at f4 hbb⟩, fun j hj => ?_⟩
  obtain ⟨v, hv⟩ := f5 j hj
  exact ⟨v, mm.cell hv hbb⟩
end Go.Proofs.YtjoiaejbahdjkaaGreat
/-
  Law 26: what the two archives say of a name.
-/
namespace Go.Proofs.YtjoiaejbahdjkaaGreat
open Go Go.RowKit Go.Mine Go.Maps
set_option linter.unusedVariables false
set_option maxHeartbeats 8000000
set_option maxRecDepth 100000
theorem asked26_any (p : Nat) (mb : Option Nat) (es : Ens) (q : Nat) (na fa : Option Addr) (nc fc : Nat) (es2 : Ens) (x : ByteArray) (w : World) (h : AAt w p mb es) (h2 : RAt w q na nc fa fc es2) (hl : arcOf es = arcOf es2) (hok : ArcOk 16777216 (arcOf es2)) (hcap : ∀ q ∈ es2, q.2.f.length ≤ q.2.c) (hx : x.size ≤ maxLen) :
 Calls Tryz.prog 43 #[.pointer (some ⟨p, 0, none⟩), .pointer (some ⟨q, 0, none⟩), .string x] w fun e w' => e = .returned (.bool true) ∧ Mine.Mod (fun _ => False) w w' := by
 have hfl : ∀ e ∈ es, e.2.f.length < 2 ^ 38 := fun e he => by
  have h1 := (hok.fl (e.1, e.2.f) (by rw [← hl]; exact List.mem_map_of_mem he)).2
  simp only at h1
  omega
 have hfl2 : ∀ e ∈ es2, e.2.f.length ≤ e.2.c ∧ e.2.f.length < 2 ^ 40 := fun e he => by
  have h1 := (hok.fl (e.1, e.2.f) (List.mem_map_of_mem he)).2
  simp only at h1
  exact ⟨hcap e he, by omega⟩
 have hfn : (fileO (arcOf es2) x).length < 2 ^ 38 := by
  unfold fileO
  cases hg : getA (arcOf es2) x with
  | none => simp
  | some f =>
    have h1 := (hok.fl _ (getA_some hg)).2
    simp only at h1
    show f.length < _
    omega
 have hup := up_of hok
 have hn37 : es2.length < 2 ^ 37 := (hok.bnds (by decide)).n
 have HFA := Hi fun W (m : Mine.Mod (fun _ => False) w W) => file26_any p mb es x W (h.mod0 m) hx hfl
 have HRA := Hi fun W (m : Mine.Mod (fun _ => False) w W) => relation26P_any p mb es x W (h.mod0 m) hx hfl
 have HFR := Hi fun W (m : Mine.Mod (fun _ => False) w W) => fileR26_any q na fa nc fc es2 x w W h2 m hn37 hup
 have HRR := Hi fun W (m : Mine.Mod (fun _ => False) w W) => relation26R_any q na fa nc fc es2 x W (h2.mod0 m) hn37 hup hfl2
 rw [hl] at HFA HRA
 clear h h2 hl hcap hx hok hfl hfl2 hup hn37
 have HAO := Hi (relO_ok (arcOf es2) x)
 unfold FileAP at HFA
 unfold FileR at HFR
 unfold RelP at HRA HRR
 obtain ⟨nm, A, nr, T, d, np, k, m, rows, ps, hRe⟩ : ∃ nm A nr T d np k m rows ps, relO (arcOf es2) x = ⟨nm, A, nr, T, d, np, k, m, rows, ps⟩ := ⟨_, _, _, _, _, _, _, _, _, _, rfl⟩
 rw [hRe] at HAO HRA HRR
 simp only at HRA HRR
 have hnr : nr ≤ 65536 := HAO.out.nb
 have hmb : m ≤ 64 := HAO.out.mb
 have HRL : Hid (rows.length = nr) := Hi HAO.out.rl
 have HML : Hid (∀ r ∈ rows, r.length = m) := Hi HAO.out.ml
 have HREL := Hi fun (a b : Option Addr) (ca cb : Nat) (ha hb : List Value) W (h1 : LLR W a ha (rows.map sts)) (h2 : LLR W b hb (rows.map sts)) => relation26_any nm A nr m a b ca cb ha hb rows W h1 h2 HML.out (by omega) HRL.out (by omega)
 obtain ⟨g, hg⟩ : ∃ g, g = (getA (arcOf es2) x).isSome := ⟨_, rfl⟩
 rw [← hg] at HFA HFR HRA HRR
 obtain ⟨f, hf⟩ : ∃ f, f = fileO (arcOf es2) x := ⟨_, rfl⟩
 rw [← hf] at HFA HFR hfn
 obtain ⟨n, hn⟩ : ∃ n, n = f.length := ⟨_, rfl⟩
 have HN := Hi hn
 have HSM : Hid (∀ (a1 a2 : Option Addr) (d1 d2 : Nat) (W : World), Rd W a1 (bts f) → Rd W a2 (bts f) → Calls Tryz.prog 10 #[.slice a1 f.length d1, .slice a2 f.length d2] W fun e w' => e = .returned (.bool true) ∧ Mine.Mod (fun _ => False) W w') := Hi (fun a1 a2 d1 d2 W h1 h2 => (same26_any a1 a2 d1 d2 f f W h1 h2 (by omega) (by omega)).mono (by
  rintro e w' ⟨rfl, h⟩
  exact ⟨ret_boolA (by simp), h⟩))
 have HOV := Hi fun (a1 : Option Addr) (c : Nat) W (h : WrOk W a1 c f) => over26_any a1 c f W h (by omega)
 rw [← hn] at HFA HFR HSM HOV hfn
 clear hg hf hn hRe HAO
 go_enter Tryz.func43, Tryz.ntmps43
 go_wp2_with fail
 refine (HFA.out w (Mod.refl _ _)).mono ?_
 rintro e w1 ⟨a1, rfl, hW1, hF1, hm1⟩
 have HW1 := Hi hW1; have HF1 := Hi hF1; have HM1 := Hi hm1
 clear hW1 hF1 hm1
 go_wp2_with fail
 refine (HFR.out w1 HM1.out).mono ?_
 rintro e w2 ⟨a2, c2, rfl, hr2, hb2, hm2⟩
 have HR2 := Hi hr2; have HB2 := Hi hb2; have HM2 := Hi (HM1.out.step hm2 fun _ _ e => e)
 have HW2 := Hi (HW1.out.mod hm2 fun _ _ => id)
 clear hr2 hb2 hm2 HW1 HM1
 have e0 : (g != g) = false := by simp
 go_wp2_with fail
 refine (HSM.out a1 a2 n c2 w2 HW2.out.rd HR2.out).mono ?_
 rintro e w3 ⟨rfl, hm3⟩
 have HW3 := Hi (HW2.out.mod hm3 fun _ _ => id)
 have HR3 := Hi (HR2.out.mod hm3 fun _ _ => id)
 have HM3 := Hi (HM2.out.step hm3 fun _ _ e => e)
 clear hm3 HW2 HR2 HM2
 go_wp2_with fail
 refine (HOV.out a1 n w3 HW3.out).mono ?_
 rintro e w4 ⟨rfl, hm4⟩
 have HM4 := Hi (HM3.out.step hm4 fun b hb e => by have := HF1.out b e; omega)
 have HR4 := Hi (HR3.out.mod hm4 fun b hb e => by have h1 := HF1.out b e; have h2 := HB2.out b hb; omega)
 clear hm4 HW3 HR3 HM3
 go_wp2_with fail
 refine (HFA.out w4 HM4.out).mono ?_
 rintro e w5 ⟨a5, rfl, hW5, hF5, hm5⟩
 have HR5 := Hi hW5.rd; have HM5 := Hi (HM4.out.step hm5 fun _ _ e => e)
 have HS5 := Hi (HR4.out.mod hm5 fun _ _ => id)
 clear hW5 hF5 hm5 HR4
 go_wp2_with fail
 refine (HRA.out w5 HM5.out).mono ?_
 intro e w6 hR
 obtain ⟨ra, rc, hs, rfl, hL⟩ := hR
 have HM6 := Hi (HM5.out.step hL.md fun _ _ e => e)
 have HR6 := Hi (HR5.out.mod hL.md fun _ _ => id)
 have HS6 := Hi (HS5.out.mod hL.md fun _ _ => id)
 have HL6 := Hi hL
 have HRU6 : Hid (RU (fun b => w5.heap.size ≤ b ∧ b < w6.heap.size) w6 ra hs nr m) := Hi (by
  have h1 := RU.of (F := fun b => w5.heap.size ≤ b ∧ b < w6.heap.size) hL HML.out (fun b h1 h2 => ⟨h1.elim id id, h2⟩)
  rw [HRL.out] at h1
  exact h1)
 clear hL HR5 HS5
 have HB6 : Hid ((w6.alloc (.cells #[.string nm, .int .i64 A, .slice ra nr rc] 86)).heap[w6.heap.size]? = some (.cells #[.string nm, .int .i64 A, .slice ra nr rc] 86 (0, 0))) := Hi (heap_alloc_new w6 _)
 have HMb : Hid (Mine.Mod (fun _ => False) w6 (w6.alloc (.cells #[.string nm, .int .i64 A, .slice ra nr rc] 86))) := Hi ((Mod.refl _ _).alloc _)
 go_upto_region 8 with fail
 obtain ⟨X, hX⟩ : ∃ X, X = w6.heap.size := ⟨_, rfl⟩
 have HX := Hi hX
 rw [← hX] at HB6 HRU6 ⊢
 clear hX
 generalize w6.alloc (.cells #[.string nm, .int .i64 A, .slice ra nr rc] 86) = w7 at *
 have HM7 := Hi (HM6.out.step HMb.out fun _ _ e => e)
 have HZ7 : Hid (X < w7.heap.size) := Hi (Array.getElem?_eq_some_iff.1 HB6.out).1
 have hf00 := frozen_at (j := 0) HB6.out
 go_wp2_with fail
 refine (HRR.out w7 HM7.out).mono ?_
 intro e w8 hR
 obtain ⟨rb, rd, hs2, rfl, hL⟩ := hR
 have HM8 := Hi (HM7.out.step hL.md fun _ _ e => e)
 have HL8 := Hi hL
 have HM68 := Hi (HMb.out.step hL.md fun _ _ e => e)
 have HX8 := Hi (hL.md.at HB6.out id)
 have HM78 := Hi hL.md
 clear hL HMb HB6
 have HB8 : Hid ((w8.alloc (.cells #[.string nm, .int .i64 A, .slice rb nr rd] 86)).heap[w8.heap.size]? = some (.cells #[.string nm, .int .i64 A, .slice rb nr rd] 86 (0, 0))) := Hi (heap_alloc_new w8 _)
 have HMb : Hid (Mine.Mod (fun _ => False) w8 (w8.alloc (.cells #[.string nm, .int .i64 A, .slice rb nr rd] 86))) := Hi ((Mod.refl _ _).alloc _)
 go_upto_region 9 with fail
 obtain ⟨Y, hY⟩ : ∃ Y, Y = w8.heap.size := ⟨_, rfl⟩
 have HY := Hi hY
 rw [← hY] at HB8 ⊢
 clear hY
 generalize w8.alloc (.cells #[.string nm, .int .i64 A, .slice rb nr rd] 86) = w9 at *
 have HM9 := Hi (HM8.out.step HMb.out fun _ _ e => e)
 have HX9 := Hi (HMb.out.at HX8.out id)
 have HM69 := Hi (HM68.out.step HMb.out fun _ _ e => e)
 have x0 := cell_at (j := 0) HX9.out rfl; have x1 := cell_at (j := 1) HX9.out rfl; have x2 := cell_at (j := 2) HX9.out rfl
 have y0 := cell_at (j := 0) HB8.out rfl; have y1 := cell_at (j := 1) HB8.out rfl; have y2 := cell_at (j := 2) HB8.out rfl
 have HLX9 := Hi (HL6.out.mod0 HM69.out)
 have HLY9 := Hi (HL8.out.mod0 HMb.out)
 clear HMb HM68 HX8 HL6 HL8
 go_wp2_with fail
 refine (HREL.out ra rb rc rd hs hs2 w9 HLX9.out.rd HLY9.out.rd).mono ?_
 rintro e w10 ⟨rfl, hm10⟩
 have HM10 := Hi (HM9.out.step hm10 fun _ _ e => e)
 have HM610 := Hi (HM69.out.step hm10 fun _ _ e => e)
 have HX10 := Hi (hm10.at HX9.out id)
 have HY10 := Hi (hm10.at HB8.out id)
 have HLX10 := Hi (HLX9.out.mod0 hm10)
 have HLY10 := Hi (HLY9.out.mod0 hm10)
 clear hm10 x0 x1 x2 y0 y1 y2 HX9 HB8 HLX9 HLY9 HM69
 go_wp2_with fail
 refine (HSM.out a5 a2 n c2 w10 (HR6.out.mod HM610.out fun _ _ => id) (HS6.out.mod HM610.out fun _ _ => id)).mono ?_
 rintro e w11 ⟨rfl, hm11⟩
 have HM11 := Hi (HM10.out.step hm11 fun _ _ e => e)
 have HX11 := Hi (hm11.at HX10.out id)
 have HY11 := Hi (hm11.at HY10.out id)
 have HLX11 := Hi (HLX10.out.mod0 hm11)
 have HLY11 := Hi (HLY10.out.mod0 hm11)
 have HM611 := Hi (HM610.out.step hm11 fun _ _ e => e)
 clear hm11 HX10 HY10 HLX10 HLY10 HM610 HR6 HS6
 have HRU11 := Hi ((HRU6.out.mod HM611.out) fun _ _ => id)
 have HYX : Hid (X < w7.heap.size ∧ X < Y) := Hi ⟨HZ7.out, by have h1 := HY.out; have h2 := HM78.out.size; have h3 := HZ7.out; omega⟩
 clear HRU6 HM611 HM78
 go_wp2_with fail
 go_loopw [17, 18] (fun iv _ wr => ∃ i : Nat, iv = .int .i64 i ∧ i ≤ nr ∧ Hid (RU (fun b => w5.heap.size ≤ b ∧ b < X) wr ra hs nr m) ∧ Hid (Mine.Mod (fun b => w5.heap.size ≤ b ∧ b < X) w11 wr)) (fun iv _ _ => nr - (intOf iv).toNat)
 case atStart => exact ⟨0, rfl, Nat.zero_le _, HRU11, Hi (Mod.refl _ _)⟩
 case round =>
  clear HRU11
  obtain ⟨i, rfl, hi, hU, hM⟩ := hrel
  have x2 := cell_at (j := 2) (hM.out.at HX11.out (fun e => by have := e.2; omega)) rfl
  by_cases hlt : i < nr
  ·go_wp2_with fail
   clear x2
   go_loopw [18] (fun jv wr2 => ∃ j : Nat, jv = .int .i64 j ∧ j ≤ m ∧ Hid (RU (fun b => w5.heap.size ≤ b ∧ b < X) wr2 ra hs nr m) ∧ Hid (Mine.Mod (fun b => w5.heap.size ≤ b ∧ b < X) w11 wr2)) (fun jv _ => m - (intOf jv).toNat)
   case atStart => exact ⟨0, rfl, Nat.zero_le _, hU, hM⟩
   case round =>
    clear hU hM
    obtain ⟨j, rfl, hj, hU, hM⟩ := hrel
    have x2 := cell_at (j := 2) (hM.out.at HX11.out (fun e => by have := e.2; omega)) rfl
    obtain ⟨xa, xc, hrow, hcell⟩ := hU.out.row i hlt
    obtain ⟨b1, o1, rfl, r0⟩ := hU.out.rd i _ hrow
    clear hrow
    by_cases hjm : j < m
    ·obtain ⟨b2, o2, rfl, hF2, hne, huf, hex⟩ := hcell (by omega)
     obtain ⟨v, hv⟩ := hex j hjm
     have hfz := huf.fz (o2 + j)
     have HF2 := Hi hF2; have HNE := Hi hne
     clear hcell hex huf hF2 hne
     go_wp2_with fail
     go_roundw
     case rel => exact ⟨j + 1, by go_num, hjm, Hi (hU.out.store HNE.out _), Hi (hM.out.setCell (p := ⟨b2, o2 + j, none⟩) (fun _ => HF2.out) _)⟩
     case measure => simp [intOf]; omega
    ·clear hcell
     obtain rfl : j = m := by omega
     go_wp2_with fail
     go_roundw
     case rel => exact ⟨i + 1, by go_num, hlt, hU, hM⟩
     case measure => simp [intOf]; omega
  ·obtain rfl : nr = i := by omega
   have HML2 : Hid (Mine.Mod (fun _ => False) w wr) := Hi (HM11.out.step hM.out fun b hb e => by have h1 := e.1; have h2 := HM5.out.size; omega)
   have HY12 := Hi (hM.out.at HY11.out (fun e => by have h1 := e.2; have h2 := HYX.out.2; omega))
   have HLYR : Hid (LLR wr rb hs2 (rows.map sts)) := Hi (LL.far HLY11.out hM.out fun b e => by have h1 := e.2; have h2 := HYX.out.1; omega)
   clear hU hM HLX11 HLY11 HX11 HY11
   go_wp2_with fail
   refine (HRA.out wr HML2.out).mono ?_
   intro e w12 hR
   obtain ⟨rz, rzc, hs3, rfl, hL⟩ := hR
   have HM12 := Hi (HML2.out.step hL.md fun _ _ e => e)
   have HL12 := Hi hL.rd
   have HY13 := Hi (hL.md.at HY12.out id)
   have HLY13 := Hi (HLYR.out.mod0 hL.md)
   clear hL HY12 HLYR HML2
   have HBZ : Hid ((w12.alloc (.cells #[.string nm, .int .i64 A, .slice rz nr rzc] 86)).heap[w12.heap.size]? = some (.cells #[.string nm, .int .i64 A, .slice rz nr rzc] 86 (0, 0))) := Hi (heap_alloc_new w12 _)
   have HMb : Hid (Mine.Mod (fun _ => False) w12 (w12.alloc (.cells #[.string nm, .int .i64 A, .slice rz nr rzc] 86))) := Hi ((Mod.refl _ _).alloc _)
   go_upto_region 19 with fail
   obtain ⟨Z, hZ⟩ : ∃ Z, Z = w12.heap.size := ⟨_, rfl⟩
   rw [← hZ] at HBZ ⊢
   clear hZ
   generalize w12.alloc (.cells #[.string nm, .int .i64 A, .slice rz nr rzc] 86) = w13 at *
   have HM13 := Hi (HM12.out.step HMb.out fun _ _ e => e)
   have hy := HMb.out.at HY13.out id
   have x0 := cell_at (j := 0) HBZ.out rfl; have x1 := cell_at (j := 1) HBZ.out rfl; have x2 := cell_at (j := 2) HBZ.out rfl
   have y0 := cell_at (j := 0) hy rfl; have y1 := cell_at (j := 1) hy rfl; have y2 := cell_at (j := 2) hy rfl
   have HA13 := Hi (HL12.out.mod0 HMb.out)
   have HB13 := Hi (HLY13.out.mod0 HMb.out)
   clear HMb HL12 HLY13 HY13 HBZ hy
   go_wp2_with fail
   refine (HREL.out rz rb rzc rd hs3 hs2 w13 HA13.out HB13.out).mono ?_
   rintro e w14 ⟨rfl, hm14⟩
   have HM14 := Hi (HM13.out.step hm14 fun _ _ e => e)
   clear hm14
   go_wp2_with fail
   go_ret
   exact ⟨rfl, HM14.out⟩
end Go.Proofs.YtjoiaejbahdjkaaGreat
/-
  Law 26: what the two archives tell.
-/
namespace Go.Proofs.YtjoiaejbahdjkaaGreat
open Go Go.RowKit Go.Mine Go.Maps
set_option linter.unusedVariables false
set_option maxHeartbeats 8000000
set_option maxRecDepth 100000
def TabC (w : World) (g i s : Nat) (l : Arc) : Prop := ∀ j (h : j < l.length), i ≤ j → w.cell? ⟨g, j * 3, none⟩ = some (.string l[j].1) ∧ w.cell? ⟨g, j * 3 + 1, none⟩ = some (.int .i64 ((s + ((l.take j).flatMap (·.2)).length : Nat) : Int)) ∧ w.cell? ⟨g, j * 3 + 2, none⟩ = some (.int .i64 l[j].2.length)
theorem TabC.mod {S : Nat → Prop} {w w' : World} {g i s : Nat} {l : Arc} (h : TabC w g i s l) (m : Mod S w w') (hs : ¬ S g) : TabC w' g i s l := fun j hj hi => by
 obtain ⟨h1, h2, h3⟩ := h j hj hi
 exact ⟨m.cell h1 hs, m.cell h2 hs, m.cell h3 hs⟩
theorem TabC.of {w : World} {t : TypeId} {a : Option Addr} {s : Nat} {l : Arc} (h : TabW w t a (tabE s l)) (h0 : 0 < l.length) : ∃ g, a = some ⟨g, 0, none⟩ ∧ TabC w g 0 s l ∧ Uf w g := by
 rcases h with h | ⟨g, cur, rfl, hc, ht⟩
 ·have := congrArg List.length h
  rw [tabE_len] at this
  simp at this; omega
 ·refine ⟨g, rfl, fun j hj _ => ?_, cur, t, hc⟩
  obtain ⟨h1, h2, h3⟩ := tabE_get s l j hj
  rw [Nat.mul_comm 3 j] at h1 h2 h3
  have hk : ∀ (i : Nat) (v : Value), (tabE s l)[i]? = some v → w.cell? ⟨g, i, none⟩ = some v := fun i v hv => by
   rw [← ht, List.getElem?_take] at hv
   split at hv
   ·exact cell_at hc (by rw [← Array.getElem?_toList]; exact hv)
   ·cases hv
  exact ⟨hk _ _ h1, hk _ _ h2, hk _ _ h3⟩
theorem far3 {w : World} {g i o : Nat} {u0 u1 u2 v : Value} (ho : i * 3 + 2 < o) (hv : w.cell? ⟨g, o, none⟩ = some v) : (((w.setCell ⟨g, i * 3, none⟩ u0).setCell ⟨g, i * 3 + 1, none⟩ u1).setCell ⟨g, i * 3 + 2, none⟩ u2).cell? ⟨g, o, none⟩ = some v := by
 rw [World.cell?_setCell_other _ _ _ _ (fun e => by have := congrArg Addr.off e; simp only at this; omega), World.cell?_setCell_other _ _ _ _ (fun e => by have := congrArg Addr.off e; simp only at this; omega), World.cell?_setCell_other _ _ _ _ (fun e => by have := congrArg Addr.off e; simp only at this; omega)]
 exact hv
theorem told26_any (p : Nat) (mb : Option Nat) (es : Ens) (q : Nat) (na fa : Option Addr) (nc fc : Nat) (es2 : Ens) (x : ByteArray) (w : World) (h : AAt w p mb es) (h2 : RAt w q na nc fa fc es2) (hl : arcOf es = arcOf es2) (hok : ArcOk 16777216 (arcOf es2)) (hcap : ∀ q ∈ es2, q.2.f.length ≤ q.2.c) (hx : x.size ≤ maxLen) :
 Calls Tryz.prog 15 #[.pointer (some ⟨p, 0, none⟩), .pointer (some ⟨q, 0, none⟩), .string x] w fun e w' => e = .returned (.bool true) ∧ Mine.Mod (fun _ => False) w w' := by
 have hok1 : ArcOk 1000000000 (arcOf es) := by rw [hl]; exact hok.mono (by decide)
 have HAS := Hi fun (y : ByteArray) (hy : y.size ≤ maxLen) W (m : Mine.Mod (fun _ => False) w W) => asked26_any p mb es q na fa nc fc es2 y W (h.mod0 m) (h2.mod0 m) hl hok hcap hy
 have HBA := Hi fun W (m : Mine.Mod (fun _ => False) w W) => bytesA_any p mb es W (h.mod0 m) hok1
 have HBR := Hi fun W (m : Mine.Mod (fun _ => False) w W) => bytesR26_any q na fa nc fc es2 W (h2.mod0 m) (hok.mono (by decide))
 have HTA := Hi fun W (m : Mine.Mod (fun _ => False) w W) => tabA_any p mb es W (h.mod0 m) (by rw [hl]; exact hok)
 have HTR := Hi fun W (m : Mine.Mod (fun _ => False) w W) => tabR_any q na fa nc fc es2 W (h2.mod0 m) hok
 have HLA := Hi fun W (m : Mine.Mod (fun _ => False) w W) => len26_any p mb es W (h.mod0 m)
 have HLR := Hi fun W (m : Mine.Mod (fun _ => False) w W) => lenR26_any q na fa nc fc es2 W (h2.mod0 m)
 have hle : es.length = es2.length := by rw [← arcOf_len, hl, arcOf_len]
 rw [hle] at HLA
 rw [hl] at HBA HTA
 have hnm : ∀ e ∈ arcOf es2, e.1.size ≤ maxLen := fun e he => by have := hok.nm e he; unfold maxLen; omega
 have hsl := arcL_len (arcOf es2)
 have hsz := hok.sz
 obtain ⟨L, hL⟩ : ∃ L, L = arcOf es2 := ⟨_, rfl⟩
 have hLL : L.length = es2.length := by rw [hL, arcOf_len]
 rw [← hL] at HBA HBR HTA HTR hnm hsl hsz
 obtain ⟨n, hn⟩ : ∃ n, n = es2.length := ⟨_, rfl⟩
 have hn37 : n < 2 ^ 37 := by rw [hn]; exact (hok.bnds (by decide)).n
 rw [← hn] at HLA HLR hLL
 unfold TabP at HTA HTR
 unfold NewB at HBR
 rw [hLL] at HTA HTR
 obtain ⟨s, hs⟩ : ∃ s, s = arSz L := ⟨_, rfl⟩
 rw [← hs] at hsl hsz HBA
 rw [hsl] at HBR
 obtain ⟨T, hT⟩ : ∃ T, T = 10 + (arTab L).length := ⟨_, rfl⟩
 rw [← hT] at HTA HTR
 obtain ⟨b, hb⟩ : ∃ b, b = arcL L := ⟨_, rfl⟩
 rw [← hb] at hsl HBA HBR
 have HNM := Hi hnm; have HLN := Hi hLL; have HSL := Hi hsl
 have HSM : Hid (∀ (a1 a2 : Option Addr) (d1 d2 : Nat) (W : World), Rd W a1 (bts b) → Rd W a2 (bts b) → Calls Tryz.prog 10 #[.slice a1 b.length d1, .slice a2 b.length d2] W fun e w' => e = .returned (.bool true) ∧ Mine.Mod (fun _ => False) W w') := Hi (fun a1 a2 d1 d2 W h1 h2 => (same26_any a1 a2 d1 d2 b b W h1 h2 (by omega) (by omega)).mono (by
  rintro e w' ⟨rfl, h⟩
  exact ⟨ret_boolA (by simp), h⟩))
 have HOV := Hi fun (a1 : Option Addr) (c : Nat) W (h : WrOk W a1 c b) => over26_any a1 c b W h (by omega)
 rw [hsl] at HSM HOV
 clear h h2 hl hok hok1 hcap hle hnm hsl hL hLL hn hs hT hb
 go_enter Tryz.func15, Tryz.ntmps15
 go_wp2_with fail
 refine (HBA.out w (Mod.refl _ _)).mono ?_
 rintro e w1 ⟨g1, rfl, hW1, hg1, hm1⟩
 have HW1 := Hi hW1; have HG1 := Hi hg1; have HM1 := Hi hm1
 clear hW1 hg1 hm1
 go_wp2_with fail
 refine (HBR.out w1 HM1.out).mono ?_
 rintro e w2 ⟨a2, c2, rfl, hr2, hb2, hm2⟩
 have HR2 := Hi hr2.rd; have HM2 := Hi (HM1.out.step hm2 fun _ _ e => e)
 have HW2 := Hi (HW1.out.mod hm2 id)
 clear hr2 hb2 hm2 HW1 HM1
 go_wp2_with fail
 refine (HSM.out (some ⟨g1, 0, none⟩) a2 s c2 w2 HW2.out.rd HR2.out).mono ?_
 rintro e w3 ⟨rfl, hm3⟩
 have HM3 := Hi (HM2.out.step hm3 fun _ _ e => e)
 have HW3 := Hi (HW2.out.mod hm3 id)
 clear hm3 HM2 HW2 HR2
 go_wp2_with fail
 refine (HLA.out w3 HM3.out).mono ?_
 rintro e w4 ⟨rfl, hw⟩
 obtain rfl : w3 = w4 := hw
 go_wp2_with fail
 refine (HLR.out w3 HM3.out).mono ?_
 rintro e w4 ⟨rfl, hw⟩
 obtain rfl : w3 = w4 := hw
 go_wp2_with fail
 refine (HOV.out (some ⟨g1, 0, none⟩) s w3 (.inl ⟨g1, rfl, HW3.out, HSL.out.symm⟩)).mono ?_
 rintro e w4 ⟨rfl, hm4⟩
 have HM4 := Hi (HM3.out.step hm4 fun b hb e => by
  have h1 : g1 = b := by simpa [blk] using e
  have := HG1.out
  omega)
 clear hm4 HM3 HW3
 go_wp2_with fail
 refine (HTA.out w4 HM4.out).mono ?_
 rintro e w5 ⟨ta, tc, rfl, hT5, hF5, hm5⟩
 have HT5 : Hid (0 < n → ∃ g, ta = some ⟨g, 0, none⟩ ∧ TabC w5 g 0 T L ∧ Uf w5 g) := Hi (fun h0 => TabC.of hT5 (by rw [HLN.out]; exact h0))
 have HF5 := Hi hF5; have HM5 := Hi (HM4.out.step hm5 fun _ _ e => e)
 clear hT5 hF5 hm5
 go_wp2_with fail
 refine (HTR.out w5 HM5.out).mono ?_
 rintro e w6 ⟨ka, kc, rfl, hT6, hF6, hm6⟩
 have HK6 : Hid (0 < n → ∃ g, ka = some ⟨g, 0, none⟩ ∧ TabC w6 g 0 T L ∧ w5.heap.size ≤ g) := Hi (fun h0 => by
  obtain ⟨g, e, h1, h2⟩ := TabC.of hT6 (by rw [HLN.out]; exact h0)
  exact ⟨g, e, h1, hF6 g (by rw [e]; rfl)⟩)
 have HT6 : Hid (0 < n → ∃ g, ta = some ⟨g, 0, none⟩ ∧ TabC w6 g 0 T L ∧ Uf w6 g ∧ g < w5.heap.size) := Hi (fun h0 => by
  obtain ⟨g, e, h1, h2⟩ := HT5.out h0
  obtain ⟨cur, t, h3⟩ := h2
  exact ⟨g, e, h1.mod hm6 id, ⟨cur, t, hm6.at h3 id⟩, (Array.getElem?_eq_some_iff.1 h3).1⟩)
 have HM6 := Hi (HM5.out.step hm6 fun _ _ e => e)
 clear hT6 hF6 hm6 HT5
 go_wp2_with fail
 refine (HAS.out x hx w6 HM6.out).mono ?_
 rintro e w7 ⟨rfl, hm7⟩
 have HM7 := Hi (HM6.out.step hm7 fun _ _ e => e)
 have HK7 : Hid (0 < n → ∃ g, ka = some ⟨g, 0, none⟩ ∧ TabC w7 g 0 T L ∧ w5.heap.size ≤ g) := Hi (fun h0 => by
  obtain ⟨g, e, h1, h2⟩ := HK6.out h0
  exact ⟨g, e, h1.mod hm7 id, h2⟩)
 have HT7 : Hid (0 < n → ∃ g, ta = some ⟨g, 0, none⟩ ∧ TabC w7 g 0 T L ∧ Uf w7 g ∧ g < w5.heap.size) := Hi (fun h0 => by
  obtain ⟨g, e, h1, h2, h3⟩ := HT6.out h0
  exact ⟨g, e, h1.mod hm7 id, h2.mod hm7 id, h3⟩)
 clear hm7 HK6 HT6
 go_wp2_with fail
 go_loopw [10] (fun iv wr => ∃ i : Nat, iv = .int .i64 i ∧ i ≤ n ∧ Hid (0 < n → ∃ g, ta = some ⟨g, 0, none⟩ ∧ TabC wr g i T L ∧ Uf wr g ∧ g < w5.heap.size) ∧ Hid (Mine.Mod (fun b => w4.heap.size ≤ b ∧ b < w5.heap.size) w7 wr)) (fun iv _ => n - (intOf iv).toNat)
 case atStart => exact ⟨0, rfl, Nat.zero_le _, HT7, Hi (Mod.refl _ _)⟩
 case round =>
  clear HT7
  obtain ⟨i, rfl, hi, hT, hM⟩ := hrel
  have HMW : Hid (Mine.Mod (fun _ => False) w wr) := Hi (HM7.out.step hM.out fun b hb e => by have h1 := e.1; have h2 := HM4.out.size; omega)
  by_cases hlt : i < n
  ·have hiL : i < L.length := by rw [HLN.out]; exact hlt
   obtain ⟨g, rfl, hTC, hUf, hgl⟩ := hT.out (by omega)
   obtain ⟨gk, rfl, hKC, hgk⟩ := HK7.out (by omega)
   obtain ⟨t0, t1, t2⟩ := hTC i hiL (Nat.le_refl _)
   obtain ⟨k0, k1, k2⟩ := (hKC.mod hM.out fun e => by have := e.2; omega) i hiL (Nat.zero_le _)
   have HASK := Hi (HAS.out L[i].1 (HNM.out _ (List.getElem_mem hiL)) wr.drew HMW.out.drew)
   have HTC := Hi hTC; have HUf := Hi hUf
   have HGG := Hi (And.intro hgl (HF5.out g rfl))
   generalize L[i].1 = nm at *
   generalize L[i].2.length = sz at *
   generalize (T + ((L.take i).flatMap (·.2)).length) = pl at *
   clear hTC hUf hgl hgk hKC hiL hT
   go_upto_region 12 with fail
   refine wp_region_ord (fun w' => w'.cell? ⟨g, i * 3, none⟩ = some (.string nm) ∧ w'.cell? ⟨g, i * 3 + 1, none⟩ = some (.int .i64 (pl : Nat)) ∧ w'.cell? ⟨g, i * 3 + 2, none⟩ = some (.int .i64 (sz : Nat)) ∧ w'.cell? ⟨gk, i * 3, none⟩ = some (.string nm) ∧ w'.cell? ⟨gk, i * 3 + 1, none⟩ = some (.int .i64 (pl : Nat)) ∧ w'.cell? ⟨gk, i * 3 + 2, none⟩ = some (.int .i64 (sz : Nat))) [(0, 0), (0, 1), (0, 2), (0, 3), (1, 4), (0, 5), (0, 6), (0, 7), (0, 8), (1, 9), (0, 10), (0, 11), (0, 12), (0, 13), (0, 14), (0, 15), (1, 16), (0, 17), (0, 18), (0, 19), (0, 20), (1, 21), (0, 22), (0, 23), (0, 24), (0, 25), (0, 26), (0, 27), (0, 28), (1, 29), (0, 30), (0, 31), (0, 32), (0, 33), (1, 34), (0, 35), (0, 36), (0, 37), (0, 38), (0, 39), (0, 40), (0, 41), (0, 42), (0, 43), (1, 44), (3, 45), (0, 46), (0, 47)] (by kernel_rfl) (by kernel_rfl) ?_
   go_wp2_with (first
    |(refine ord_pure rfl rfl rfl (fun K hK => ?_); go_big_quiet_op; refine hK _ ?_; clear hK K)
    |(refine ord_skip rfl rfl ?_; simp only [Act.put, List.setIfInBounds_toArray, List.set_cons_zero, List.set_cons_succ])
    |(refine ord_held rfl rfl rfl (⟨t0, t1, t2, k0, k1, k2⟩) (fun K hK => ?_); apply Exists.intro; refine ⟨fun w' hs => ?_, hK _ ?_⟩; (revert hs; dsimp only; (try simp only [and_imp]); intros; go_simp; rfl); clear hK K)
    |(refine ord_drop rfl rfl (fun K hK => ?_))
    |(refine ord_nil ?_))
   clear t0 t1 t2 k0 k1 k2
   refine HASK.out.mono ?_
   clear HASK
   rintro e w9 ⟨rfl, hm9⟩
   have HM9 : Hid (Mine.Mod (fun _ => False) wr w9) := Hi ((Mod.refl (fun _ => False) wr).drew.step hm9 fun _ _ e => e)
   have HC9 := Hi (HTC.out.mod HM9.out id)
   have hf9 := HUf.out.mod HM9.out id
   have HU9 := Hi hf9
   obtain ⟨t0, t1, t2⟩ := HC9.out i (by rw [HLN.out]; exact hlt) (Nat.le_refl _)
   have f0 := hf9.fz (i * 3); have f1 := hf9.fz (i * 3 + 1); have f2 := hf9.fz (i * 3 + 2)
   clear hm9 hf9 HTC HUf
   refine hK _ _ ?_
   clear hK K
   go_wp2_with (first
    |(refine ord_pure rfl rfl rfl (fun K hK => ?_); go_big_quiet_op; refine hK _ ?_; clear hK K)
    |(refine ord_skip rfl rfl ?_; simp only [Act.put, List.setIfInBounds_toArray, List.set_cons_zero, List.set_cons_succ])
    |(refine ord_held rfl rfl rfl (trivial) (fun K hK => ?_); apply Exists.intro; refine ⟨fun w' hs => ?_, hK _ ?_⟩; (revert hs; dsimp only; (try simp only [and_imp]); intros; go_simp; rfl); clear hK K)
    |(refine ord_drop rfl rfl (fun K hK => ?_))
    |(refine ord_nil ?_))
   go_roundw
   case rel =>
    have hms : Mine.Mod (fun b => b = g) w9 (((w9.setCell ⟨g, i * 3, none⟩ (.string ⟨#[115, 112, 111, 105, 108, 116]⟩)).setCell ⟨g, i * 3 + 1, none⟩ (.int .i64 0)).setCell ⟨g, i * 3 + 2, none⟩ (.int .i64 0)) := (((Mod.refl (fun b => b = g) w9).setCell (p := ⟨g, i * 3, none⟩) (fun _ => rfl) _).setCell (p := ⟨g, i * 3 + 1, none⟩) (fun _ => rfl) _).setCell (p := ⟨g, i * 3 + 2, none⟩) (fun _ => rfl) _
    refine ⟨i + 1, by go_num, hlt, Hi (fun h0 => ⟨g, rfl, ?_, ?_, HGG.out.1⟩), Hi ((hM.out.step HM9.out fun _ _ e => e.elim).step hms fun b hb e => by rw [show b = g from e]; exact HGG.out.symm)⟩
    ·intro j hj hij
     obtain ⟨h1, h2, h3⟩ := HC9.out j hj (by omega)
     exact ⟨far3 (by omega) h1, far3 (by omega) h2, far3 (by omega) h3⟩
    ·obtain ⟨cur, t, hc⟩ := HU9.out
     exact ⟨_, t, heap_setCell_at (j := i * 3 + 2) _ (heap_setCell_at (j := i * 3 + 1) _ (heap_setCell_at (j := i * 3) _ hc))⟩
   case measure => simp [intOf]; omega
  ·obtain rfl : n = i := by omega
   clear hT
   go_wp2_with fail
   refine (HBA.out wr HMW.out).mono ?_
   rintro e w10 ⟨g10, rfl, hW10, _, hm10⟩
   have HR10 := Hi hW10.rd; have HM10 := Hi (HMW.out.step hm10 fun _ _ e => e)
   clear hW10 hm10
   go_wp2_with fail
   refine (HBR.out w10 HM10.out).mono ?_
   rintro e w11 ⟨a11, c11, rfl, hr11, _, hm11⟩
   have HR11 := Hi hr11.rd; have HM11 := Hi (HM10.out.step hm11 fun _ _ e => e)
   have HQ11 := Hi (HR10.out.mod hm11 fun _ _ => id)
   clear hr11 hm11
   go_wp2_with fail
   refine (HSM.out (some ⟨g10, 0, none⟩) a11 s c11 w11 HQ11.out HR11.out).mono ?_
   rintro e w12 ⟨rfl, hm12⟩
   have HM12 := Hi (HM11.out.step hm12 fun _ _ e => e)
   clear hm12
   go_wp2_with fail
   go_ret
   exact ⟨rfl, HM12.out⟩
end Go.Proofs.YtjoiaejbahdjkaaGreat
