/-
  The document's Rising: walked.
-/
import Derived.Test.YtjoiaejbahdjkaaGreatFgB
import Derived.Test.YtjoiaejbahdjkaaGreatCqE
import Derived.Test.YtjoiaejbahdjkaaGreatPage
namespace Go.Proofs.YtjoiaejbahdjkaaGreat
open Go Go.RowKit Go.Mine
set_option linter.unusedVariables false
set_option maxHeartbeats 4000000
set_option maxRecDepth 100000
def RisP (w : World) (xs : List (List ByteArray)) (e : Ending) (w' : World) : Prop := (∃ oa oc hs, e = .returned (.slice oa (riseG belowL xs).length oc) ∧ LLR w' oa hs ((riseG belowL xs).map sts)) ∧ Mod (fun _ => False) w w'
theorem rising_any : ∀ (N : Nat) (a : Option Addr) (c : Nat) (ha : List Value) (xs : List (List ByteArray)) (m : Nat) (w : World), xs.length ≤ N → LLR w a ha (xs.map sts) → (∀ r ∈ xs, r.length = m) → m < 2 ^ 40 → xs.length ≤ 4194304 → xs.length ≤ c →
 Calls Tryz.prog 113 #[.slice a xs.length c] w (RisP w xs) := by
 intro N
 induction N with
 | zero =>
   intro a c ha xs m w hN hx hk hm hn hc
   have h2 : xs.length < 2 := by omega
   have he : riseG belowL xs = xs := by rw [riseG, dif_pos h2]
   have HX := Hi hx; have HE := Hi he
   clear hx he hk
   generalize hl : xs.length = n at *
   have HL := Hi hl
   clear hl
   go_enter Tryz.func113, Tryz.ntmps113
   go_wp2_with fail
   go_ret
   exact ⟨⟨a, c, ha, by rw [HE.out, HL.out]; rfl, by rw [HE.out]; exact HX.out⟩, Mod.refl _ _⟩
 | succ N ih =>
   intro a c ha xs m w hN hx hk hm hn hc
   by_cases h2 : xs.length < 2
   ·have he : riseG belowL xs = xs := by rw [riseG, dif_pos h2]
    have HX := Hi hx; have HE := Hi he
    clear hx he hk ih
    generalize hl : xs.length = n at *
    have HL := Hi hl
    clear hl
    go_enter Tryz.func113, Tryz.ntmps113
    go_wp2_with fail
    go_ret
    exact ⟨⟨a, c, ha, by rw [HE.out, HL.out]; rfl, by rw [HE.out]; exact HX.out⟩, Mod.refl _ _⟩
   ·have he : riseG belowL xs = mergeG belowL (riseG belowL (xs.take (xs.length / 2))) (riseG belowL (xs.drop (xs.length / 2))) := by rw [riseG, dif_neg h2]
    obtain ⟨b, o, x9, c9, rfl, h9, h8⟩ := row_get hx hk (j := 0) (by omega)
    clear h9 h8
    have hlt : (xs.take (xs.length / 2)).length = xs.length / 2 := by rw [List.length_take]; omega
    have hld : (xs.drop (xs.length / 2)).length = xs.length - xs.length / 2 := by rw [List.length_drop]
    have hx1 := hx.take (xs.length / 2)
    have hx2 := hx.drop (c := c) (by simpa using hc) (xs.length / 2)
    have hsub : subA (some ⟨b, o, none⟩) c (xs.length / 2) 1 = some ⟨b, o + xs.length / 2, none⟩ := by unfold subA; rw [if_neg (by omega), Nat.mul_one]; simp [Addr.add]; omega
    rw [hsub, ← List.map_drop] at hx2
    rw [← List.map_take] at hx1
    have H1 := Hi (fun W (mW : Mod (fun _ => False) w W) => ih (some ⟨b, o, none⟩) c _ (xs.take (xs.length / 2)) m W (by omega) (hx1.mod0 mW) (fun r hr => hk r (List.mem_of_mem_take hr)) hm (by omega) (by omega))
    have H2 := Hi (fun W (mW : Mod (fun _ => False) w W) => ih (some ⟨b, o + xs.length / 2, none⟩) (c - xs.length / 2) _ (xs.drop (xs.length / 2)) m W (by omega) (hx2.mod0 mW) (fun r hr => hk r (List.mem_of_mem_drop hr)) hm (by omega) (by omega))
    rw [hlt] at H1
    rw [hld] at H2
    have hs1 := (rise_spec strict_below _ (xs.take (xs.length / 2)) (Nat.le_refl _)).2
    have hs2 := (rise_spec strict_below _ (xs.drop (xs.length / 2)) (Nat.le_refl _)).2
    have HM := Hi (fun (oa ob : Option Addr) (ca cb : Nat) (hsa hsb : List Value) (W : World) (g1 : LLR W oa hsa ((riseG belowL (xs.take (xs.length / 2))).map sts)) (g2 : LLR W ob hsb ((riseG belowL (xs.drop (xs.length / 2))).map sts)) =>
     merged_any oa ob ca cb hsa hsb _ _ m W g1 g2 (fun r hr => hk r (List.mem_of_mem_take ((hs1.1 r).1 hr))) (fun r hr => hk r (List.mem_of_mem_drop ((hs2.1 r).1 hr))) hm (by omega))
    have HE := Hi he
    clear hx hx1 hx2 hs1 hs2 he hsub hlt hld hk ih
    have hhn : xs.length / 2 < xs.length := by omega
    have hcx : ¬ (c = xs.length / 2) := by omega
    unfold RisP at H1 H2
    generalize riseG belowL (xs.take (xs.length / 2)) = R1 at *
    generalize riseG belowL (xs.drop (xs.length / 2)) = R2 at *
    generalize hl : xs.length = n at *
    have HL := Hi hl
    clear hl
    go_enter Tryz.func113, Tryz.ntmps113
    go_wp2_with fail
    refine wp_region_ord (fun w' => True) [(0, 0), (0, 1), (0, 2), (0, 4), (0, 5), (0, 6), (3, 3), (3, 7), (3, 8), (0, 9)] (by kernel_rfl) (by kernel_rfl) ?_
    go_wp2_with (first
     |(refine ord_pure rfl rfl rfl (fun K hK => ?_); go_big_quiet_op; refine hK _ ?_; clear hK K)
     |(refine ord_drop rfl rfl (fun K hK => ?_))
     |(refine ord_nil ?_))
    refine (H1.out _ ((Mod.refl _ w).drew)).mono ?_
    rintro e w1 ⟨⟨oa, ca, hsa, rfl, g1⟩, m1⟩
    have G1 := Hi g1
    have M1 := Hi (((Mod.refl (fun _ => False) w).drew).step m1 fun _ _ e => e)
    clear g1 m1 H1
    refine hK _ _ ?_
    clear hK K
    go_wp2_with (first
     |(refine ord_pure rfl rfl rfl (fun K hK => ?_); go_big_quiet_op; refine hK _ ?_; clear hK K)
     |(refine ord_drop rfl rfl (fun K hK => ?_))
     |(refine ord_nil ?_))
    refine (H2.out _ M1.out).mono ?_
    rintro e w2 ⟨⟨ob, cb, hsb, rfl, g2⟩, m2⟩
    have HMM := Hi (HM.out oa ob ca cb hsa hsb w2 (G1.out.mod0 m2) g2)
    have M2 := Hi (M1.out.step m2 fun _ _ e => e)
    clear g2 m2 H2 HM G1 M1
    refine hK _ _ ?_
    clear hK K
    go_wp2_with (first
     |(refine ord_pure rfl rfl rfl (fun K hK => ?_); go_big_quiet_op; refine hK _ ?_; clear hK K)
     |(refine ord_drop rfl rfl (fun K hK => ?_))
     |(refine ord_nil ?_))
    refine HMM.out.mono ?_
    rintro e w3 ⟨⟨oc, cc, hsc, rfl, g3⟩, m3⟩
    have G3 := Hi g3
    have M3 := Hi (M2.out.step m3 fun _ _ e => e)
    clear g3 m3 HMM M2
    refine hK _ _ ?_
    clear hK K
    go_wp2_with (first
     |(refine ord_pure rfl rfl rfl (fun K hK => ?_); go_big_quiet_op; refine hK _ ?_; clear hK K)
     |(refine ord_drop rfl rfl (fun K hK => ?_))
     |(refine ord_nil ?_))
    go_ret
    exact ⟨⟨oc, cc, hsc, by rw [HE.out]; rfl, by rw [HE.out]; exact G3.out⟩, M3.out⟩
end Go.Proofs.YtjoiaejbahdjkaaGreat
/-
  The document's texts, place, text, low: walked.
-/
namespace Go.Proofs.YtjoiaejbahdjkaaGreat
open Go Go.RowKit Go.Mine
set_option linter.unusedVariables false
set_option maxHeartbeats 4000000
set_option maxRecDepth 100000
theorem place_any (a : Option Addr) (c : Nat) (l : List ByteArray) (s : ByteArray) (i : Nat) (w : World) (hr : Rd w a (sts l)) (hu : Up blt l) (hn : l.length < 2 ^ 40) (hi : l[i]? = some s) :
 Calls Tryz.prog 117 #[.slice a l.length c, .string s] w fun e w' => e = .returned (.int .i64 i) ∧ w = w' := by
 have HR := Hi hr
 have hil := (List.getElem?_eq_some_iff.1 hi).1
 have hie : l[i] = s := by
  have h := List.getElem?_eq_getElem hil
  rw [hi] at h
  exact (Option.some.inj h).symm
 have HT : Hid (∀ j (h : j < l.length), (Op.bytesLess l[j].toList s.toList || l[j].toList == s.toList) = decide (j ≤ i)) := Hi (fun j h => by
  rw [ble_not, ← hie]
  by_cases hji : j ≤ i
  ·rw [decide_eq_true hji]
   by_cases hj2 : j = i
   ·subst hj2; rw [strict_blt.irr]; rfl
   ·rw [strict_blt.asymm (Up.get hu (show j < i by omega) hil)]; rfl
  ·rw [decide_eq_false hji, Up.get hu (show i < j by omega) h]; rfl)
 clear hr hu hi hie
 obtain ⟨n, hnl⟩ : ∃ n, n = l.length := ⟨_, rfl⟩
 have HNL := Hi hnl
 rw [← hnl] at hn hil ⊢
 clear hnl
 go_enter Tryz.func117, Tryz.ntmps117
 go_wp2_with fail
 go_loopw [5, 6, 7] (fun lv hv _ wr => ∃ lo hi_ : Nat, lv = .int .i64 lo ∧ hv = .int .i64 hi_ ∧ lo ≤ i ∧ i < hi_ ∧ hi_ ≤ n ∧ wr = w) (fun lv hv _ _ => (intOf hv).toNat - (intOf lv).toNat)
 case atStart => exact ⟨0, n, rfl, rfl, Nat.zero_le _, hil, Nat.le_refl _, rfl⟩
 case round =>
  obtain ⟨lo, hi_, rfl, rfl, h1, h2, h3, hww⟩ := hrel
  obtain rfl : w = wr := hww.symm
  clear hww
  by_cases hg : 1 < hi_ - lo
  ·have hd : decide (1 < (hi_ : Int) - lo) = true := by simp; omega
   obtain ⟨md, hmd⟩ : ∃ md, md = (lo + hi_) / 2 := ⟨_, rfl⟩
   have hmi : ((lo : Int) + hi_) / 2 = (md : Int) := by omega
   have HMI := Hi hmi
   clear hmi
   have hml : md < l.length := by have := HNL.out; omega
   have hmn : md < n := by omega
   obtain ⟨b, o, rfl, x0⟩ := str_cell HR.out hml
   have ht := HT.out md hml
   generalize l[md] = t at *
   have x1 := x0
   rw [hmd] at x1
   clear hml x0
   by_cases hmd2 : md ≤ i
   ·rw [decide_eq_true hmd2] at ht
    go_wp2_with fail
    go_roundw
    case rel => exact ⟨md, hi_, by rw [HMI.out], rfl, hmd2, h2, h3, trivial⟩
    case measure => simp [intOf]; omega
   ·rw [decide_eq_false hmd2] at ht
    go_wp2_with fail
    go_roundw
    case rel => exact ⟨lo, md, rfl, by rw [HMI.out], h1, by omega, by omega, trivial⟩
    case measure => simp [intOf]; omega
  ·have hd : decide (1 < (hi_ : Int) - lo) = false := by simp; omega
   obtain rfl : lo = i := by omega
   go_wp2_with fail
   go_ret
   exact ⟨rfl, rfl⟩
theorem textR_any (oa : Option Addr) (oc : Nat) (l : List UInt8) (s : ByteArray) (w : World) (hO : Mine.Own w 5 1 oa l.length oc (bts l)) (hl : l.length ≤ 2 ^ 40) (hs : s.size ≤ 2 ^ 30) :
 Calls Tryz.prog 115 #[.slice oa l.length oc, .string s] w fun e w' => ∃ a' c', e = .returned (.slice a' (l ++ lebl s.size ++ s.data.toList).length c') ∧ Mine.Own w' 5 1 a' (l ++ lebl s.size ++ s.data.toList).length c' (bts (l ++ lebl s.size ++ s.data.toList)) ∧ Grow w oa w' a' := by
 have hes : s.size = s.data.toList.length := Lib.size_eq s
 have HOL := Hi hO
 have HES := Hi hes
 clear hO hes
 go_enter Tryz.func115, Tryz.ntmps115
 go_wp2_with (first
  |(go_at_call 88; refine (put_any s.size _ (by omega)).mono ?_; rintro e w2 ⟨g2, c2, rfl, hO2, hg2, hM2⟩
    have HO2 := Hi hO2; have HM2 := Hi hM2; clear hO2 hM2
    have hle := lebl_len64 s.size (by omega))
  |(at_builtin; refine wpL_append rfl (.tmp 5) (.tmp 9) 23 23 rfl ti24 rfl (HOL.out.mod HM2.out (fun _ _ => id)) rfl (Src.ofRd ti24.ht _ _ HO2.out.rd (by simp) (bts_one _)) (by omega) (by unfold maxLen; omega) ?_; intro a3 c3 w3 hO3 hG3 _
    have HO3 := Hi hO3; have HG3 := Hi hG3; clear hO3 hG3)
  |(at_builtin; refine wpL_append rfl (.tmp 11) (.tmp 12) 23 9 rfl ti24 rfl HO3.out rfl (Src.ofString _ (by kernel_rfl) s) (by omega) (by unfold maxLen; omega) ?_; intro a4 c4 w4 hO4 hG4 _
    have HO4 := Hi hO4; have HG4 := Hi (HG3.out.trans hG4); clear hO4 hG4))
 go_ret
 have hln : (l ++ lebl s.size ++ s.data.toList).length = l.length + (lebl s.size).length + s.size := by rw [List.length_append, List.length_append, ← HES.out]
 rw [hln]
 refine ⟨a4, c4, rfl, ?_, HG4.out.pre0 HM2.out⟩
 have h1 := HO4.out
 rw [bts_append, bts_append]
 exact h1
theorem low_any (oa : Option Addr) (oc : Nat) (l : List UInt8) (n : Nat) (w : World) (hO : Mine.Own w 5 1 oa l.length oc (bts l)) (hl : l.length ≤ 2 ^ 40) (hn : n < 2 ^ 32) :
 Calls Tryz.prog 95 #[.slice oa l.length oc, .int .u32 n] w fun e w' => ∃ a' c', e = .returned (.slice a' (l ++ fourL n).length c') ∧ Mine.Own w' 5 1 a' (l ++ fourL n).length c' (bts (l ++ fourL n)) ∧ Grow w oa w' a' := by
 have HOL := Hi hO
 clear hO
 go_enter Tryz.func95, Tryz.ntmps95
 have hb : bts (fourL n) = [.int .u8 ((n : Int) % 256), .int .u8 ((n : Int) / 256 % 256), .int .u8 ((n : Int) / 65536 % 256), .int .u8 ((n : Int) / 16777216)] := by
  have k : ∀ x : Nat, x < 256 → (((UInt8.ofNat x).toNat : Nat) : Int) = (x : Int) := fun x h => by simp; omega
  unfold fourL bts
  simp only [List.map_cons, List.map_nil]
  rw [k _ (by omega), k _ (by omega), k _ (by omega), k _ (by omega)]
  simp
 have HBT := Hi hb
 clear hb
 go_wp2_with (at_builtin; refine wpL_appendN (us := [.int .u8 ((n : Int) % 256), .int .u8 ((n : Int) / 256 % 256), .int .u8 ((n : Int) / 65536 % 256), .int .u8 ((n : Int) / 16777216)]) rfl (.tmp 5) (.tmp 20) 23 rfl ti24 rfl HOL.out rfl rfl rfl (by omega) (by unfold maxLen; omega) ?_; intro a3 c3 w3 hO3 hG3 _
              have HO3 := Hi hO3; have HG3 := Hi hG3; clear hO3 hG3)
 go_ret
 have hln : (l ++ fourL n).length = l.length + 4 := by rw [List.length_append]; rfl
 rw [hln]
 refine ⟨a3, c3, rfl, ?_, HG3.out⟩
 have h1 := HO3.out
 rw [bts_append, HBT.out]
 exact h1
end Go.Proofs.YtjoiaejbahdjkaaGreat
/-
  The document's texts: walked.
-/
namespace Go.Proofs.YtjoiaejbahdjkaaGreat
open Go Go.RowKit Go.Mine
set_option linter.unusedVariables false
set_option maxHeartbeats 4000000
set_option maxRecDepth 100000
theorem head_cell {w : World} {a : Option Addr} {hs : List Value} {R : List (List ByteArray)} (h : LLR w a hs (R.map sts)) (hk : ∀ r ∈ R, r.length = 1) {j : Nat} (hj : j < R.length) : ∃ b o b2 o2 c, a = some ⟨b, o, none⟩ ∧ w.cell? ⟨b, o + j, none⟩ = some (.slice (some ⟨b2, o2, none⟩) 1 c) ∧ w.cell? ⟨b2, o2, none⟩ = some (.string (R[j].headD ByteArray.empty)) := by
 obtain ⟨b, o, x, c, h1, h2, h3⟩ := row_get h hk hj
 have hl : 0 < (R[j]).length := by rw [hk _ (List.getElem_mem hj)]; omega
 obtain ⟨b2, o2, rfl, h4⟩ := str_cell h3 hl
 refine ⟨b, o, b2, o2, c, h1, h2, ?_⟩
 have e : ∀ (row : List ByteArray) (hl : 0 < row.length), row.headD ByteArray.empty = row[0] := fun row hl => by
  cases row with
  | nil => simp at hl
  | cons x r => rfl
 rw [e _ hl]
 exact h4
def TxP (w : World) (rows : List (List ByteArray)) (e : Ending) (w' : World) : Prop := (∃ a c, e = .returned (.slice a (textsL rows).length c) ∧ Rd w' a (sts (textsL rows))) ∧ Mod (fun _ => False) w w'
theorem textsR_any (a : Option Addr) (c : Nat) (ha : List Value) (rows : List (List ByteArray)) (m : Nat) (w : World) (hx : LLR w a ha (rows.map sts)) (hk : ∀ r ∈ rows, r.length = m) (hm : m ≤ 64) (hn : rows.length ≤ 65536) :
 Calls Tryz.prog 114 #[.slice a rows.length c] w (TxP w rows) := by
 have HX := Hi hx; have HK := Hi hk
 clear hx hk
 have hfl : rows.flatten.length = rows.length * m := flat_len rows HK.out
 obtain ⟨n, hnl⟩ : ∃ n, n = rows.length := ⟨_, rfl⟩
 have HN := Hi hnl
 rw [← hnl] at hn hfl ⊢
 have hnm : n * m ≤ 65536 * 64 := Nat.mul_le_mul hn hm
 have HFL := Hi hfl
 clear hnl hfl
 go_enter Tryz.func114, Tryz.ntmps114
 go_wp2_with fail
 go_loopw [3, 4, 5] (fun sv iv _ wr => ∃ (i : Nat) (oa : Option Addr) (oc : Nat) (hs : List Value), sv = .slice oa (i * m) oc ∧ iv = .int .i64 i ∧ i ≤ n ∧ Hid (LL (fun b => w.heap.size ≤ b) w wr 81 oa oc hs ((singles (rows.take i)).map sts))) (fun _ iv _ _ => n - (intOf iv).toNat)
 case atStart => exact ⟨0, none, 0, [], by simp, rfl, Nat.zero_le _, Hi (LL.nil _ _ w)⟩
 case round =>
  obtain ⟨i, oa, oc, hs, rfl, rfl, hi, hL⟩ := hrel
  by_cases hlt : i < n
  ·have hil : i < rows.length := by have := HN.out; omega
   obtain ⟨b1, o1, x, xc, rfl, x0', hxr⟩ := row_get HX.out HK.out hil
   have hlen : (rows[i]).length = m := HK.out _ (List.getElem_mem hil)
   have htk : (rows.take (i + 1)) = rows.take i ++ [rows[i]] := List.take_succ_eq_append_getElem hil
   obtain ⟨row, hrow⟩ : ∃ row, row = rows[i] := ⟨_, rfl⟩
   rw [← hrow] at hxr hlen htk
   have HXR := Hi hxr; have HLEN := Hi hlen; have HTK := Hi htk; have HX0 := Hi x0'
   clear hrow hxr hlen htk x0' hil
   rename World => wq
   go_wp2_with fail
   go_loopw [3, 5] (fun sv kv wr => ∃ (k t : Nat) (oa : Option Addr) (oc : Nat) (hs : List Value), sv = .slice oa t oc ∧ kv = .int .i64 k ∧ k ≤ m ∧ Hid (t = i * m + k) ∧ Hid (LL (fun b => w.heap.size ≤ b) w wr 81 oa oc hs ((singles (rows.take i ++ [row.take k])).map sts))) (fun _ kv _ => m - (intOf kv).toNat)
   case atStart => exact ⟨0, i * m, oa, oc, hs, rfl, rfl, Nat.zero_le _, Hi rfl, Hi (by
    have e : singles (rows.take i ++ [row.take 0]) = singles (rows.take i) := by simp [singles]
    rw [e]; exact hL.out)⟩
   case round =>
    clear hL
    obtain ⟨k, t, oa, oc, hs, rfl, rfl, hk2, hT, hL⟩ := hrel
    have x0 := hL.out.md.cell HX0.out id
    by_cases hlk : k < m
    ·have hkr : k < row.length := by rw [HLEN.out]; exact hlk
     obtain ⟨b2, o2, rfl, y0'⟩ := str_cell HXR.out hkr
     have y0 := hL.out.md.cell y0' id
     have HSG : Hid (singles (rows.take i ++ [row.take (k + 1)]) = singles (rows.take i ++ [row.take k]) ++ [[row[k]]]) := Hi (by
      unfold singles; rw [List.take_succ_eq_append_getElem hkr, List.flatten_append, List.flatten_append]; simp only [List.flatten_cons, List.flatten_nil, List.append_nil, List.map_append, List.map_cons, List.map_nil, List.append_assoc])
     generalize row[k] = s at *
     clear y0' hkr
     have hlen : ((singles (rows.take i ++ [row.take k])).map sts).length = t := by
      rw [hT.out]
      unfold singles
      rw [List.length_map, List.length_map, List.flatten_append, List.length_append, flat_len _ (fun r hr => HK.out r (List.mem_of_mem_take hr)), List.length_take]
      have h1 := HN.out; have h2 := HLEN.out
      simp only [List.flatten_cons, List.flatten_nil, List.append_nil, List.length_take]
      rw [show min i rows.length = i by omega, show min k row.length = k by omega]
     have ht : t ≤ 8388608 := by
      have h1 := hT.out
      have h2 : i * m ≤ 65536 * 64 := Nat.mul_le_mul (by omega) hm
      omega
     have ma : Mod (fun _ => False) wr (wr.alloc (.cells #[.string s] 9)) := (Mod.refl _ wr).alloc _
     have HL1 := Hi (hL.out.mod0 ma)
     have HRS : Hid (Rd (wr.alloc (.cells #[.string s] 9)) (some ⟨wr.heap.size, 0, none⟩) (sts [s])) := Hi (Rd.news wr [.string s] 9)
     have HB7 : Hid (∀ b, blk (some ⟨wr.heap.size, 0, none⟩) = some b → w.heap.size ≤ b ∧ b < (wr.alloc (.cells #[.string s] 9)).heap.size ∧ blk oa ≠ some b ∧ Uf (wr.alloc (.cells #[.string s] 9)) b) := Hi (fun b hb => by
      have hbe : wr.heap.size = b := by simpa [blk] using hb
      subst hbe
      exact ⟨hL.out.md.size, by simp, fun e => by have := hL.out.own.lt _ e; omega, ⟨_, _, heap_alloc_new wr _⟩⟩)
     have hown : Mine.Own (wr.alloc (.cells #[.string s] 9)) 81 1 oa t oc hs := by have h1 := HL1.out.own; rwa [hlen] at h1
     have HOW := Hi hown
     have HLE := Hi hlen
     clear hown hlen ma
     go_wp2_with (at_builtin; refine wpL_appendN (us := [.slice (some ⟨wr.heap.size, 0, none⟩) 1 1]) rfl (.tmp 23) (.tmp 32) 84 rfl tiLLS rfl HOW.out rfl rfl rfl (by show (t + 1) * 24 ≤ _; omega) (by show t + 1 ≤ _; unfold maxLen; omega) ?_; intro a5 c5 w5 hO5 hG5 _
                  have HLP : Hid (LL (fun b => w.heap.size ≤ b) w w5 81 a5 c5 (hs ++ [.slice (some ⟨wr.heap.size, 0, none⟩) 1 1]) ((singles (rows.take i ++ [row.take (k + 1)])).map sts)) := Hi (by
                   rw [HSG.out, List.map_append]
                   exact HL1.out.pushN (ys := sts [s]) rfl HRS.out HB7.out hG5 hO5 (by rw [HLE.out]))
                  clear hO5 hG5)
     go_roundw
     case rel => exact ⟨k + 1, t + 1, a5, c5, _, rfl, by go_num, hlk, Hi (by rw [hT.out]; omega), HLP⟩
     case measure => simp [intOf]; omega
    ·obtain rfl : k = m := by omega
     have e1 : row.take k = row := List.take_of_length_le (by rw [HLEN.out]; exact Nat.le_refl _)
     rw [e1, ← HTK.out] at hL
     have e2 : t = (i + 1) * k := by rw [hT.out, Nat.add_mul]; omega
     have HE2 := Hi e2
     clear e1 e2 hT
     go_wp2_with fail
     go_roundw
     case rel => exact ⟨i + 1, oa, oc, hs, by rw [HE2.out], by go_num, hlt, hL⟩
     case measure => simp [intOf]; omega
  ·obtain rfl : i = n := by omega
   rw [List.take_of_length_le (by rw [← HN.out]; exact Nat.le_refl _)] at hL
   have hsl : ((singles rows).map sts).length = i * m := by unfold singles; rw [List.length_map, List.length_map, HFL.out]
   have hsl2 : (singles rows).length = i * m := by rw [List.length_map] at hsl; exact hsl
   have hone : ∀ r ∈ singles rows, r.length = 1 := fun r hr => by obtain ⟨s, _, rfl⟩ := List.mem_map.1 hr; rfl
   have hcap : i * m ≤ oc := by
    have h1 := hL.out.own
    rw [hsl] at h1
    rcases h1.2 with ⟨_, h2, h3⟩ | ⟨_, _, _, _, h2, _⟩
    ·omega
    ·exact h2
   have HRI := Hi (rising_any _ oa oc hs (singles rows) 1 wr (Nat.le_refl _) hL.out.rd hone (by omega) (by rw [hsl2]; omega) (by rw [hsl2]; exact hcap))
   rw [hsl2] at HRI
   have hrs := (rise_spec strict_below _ (singles rows) (Nat.le_refl _)).2
   have hone2 : Hid (∀ r ∈ riseG belowL (singles rows), r.length = 1) := Hi (fun r hr => hone r ((hrs.1 r).1 hr))
   have hrl : (riseG belowL (singles rows)).length ≤ 4194304 := by have := hrs.2; omega
   have HTX : Hid (textsL rows = (riseG belowL (singles rows)).map fun r => r.headD ByteArray.empty) := Hi rfl
   have HMD := Hi hL.out.md
   clear hL hsl hsl2 hone hcap hrs
   unfold RisP at HRI
   generalize riseG belowL (singles rows) = R at *
   go_wp2_with fail
   refine HRI.out.mono ?_
   rintro e w2 ⟨⟨oa2, oc2, hs2, rfl, g2⟩, m2⟩
   have HG2 := Hi g2
   have HM2 := Hi (HMD.out.step m2 fun _ _ e => e)
   clear g2 m2 HRI HMD
   obtain ⟨t, htl⟩ : ∃ t, t = R.length := ⟨_, rfl⟩
   rw [← htl] at hrl ⊢
   have HTL := Hi htl
   clear htl
   go_wp2_with fail
   go_loopw [6, 7] (fun ov jv wr => ∃ (j : Nat) (oa : Option Addr) (oc : Nat), ov = .slice oa j oc ∧ jv = .int .i64 j ∧ j ≤ t ∧ Hid (Mine.Own wr 9 1 oa j oc (sts ((textsL rows).take j))) ∧ Hid (∀ b, blk oa = some b → w2.heap.size ≤ b) ∧ Hid (Mod (fun _ => False) w2 wr)) (fun _ jv _ => t - (intOf jv).toNat)
   case atStart => exact ⟨0, none, 0, rfl, rfl, Nat.zero_le _, Hi (by rw [List.take_zero]; exact Mine.Own.nil _ _ _), Hi (fun b hb => by simp at hb), Hi (Mod.refl _ _)⟩
   case round =>
    obtain ⟨j, oa3, oc3, rfl, rfl, hj, hO3, hF3, hM3⟩ := hrel
    by_cases hlj : j < t
    ·have hjR : j < R.length := by have := HTL.out; omega
     obtain ⟨b1, o1, b2, o2, c2, rfl, x0', y0'⟩ := head_cell HG2.out hone2.out hjR
     have x0 := hM3.out.cell x0' id
     have y0 := hM3.out.cell y0' id
     have htk : (textsL rows).take (j + 1) = (textsL rows).take j ++ [R[j].headD ByteArray.empty] := by
      have hjt : j < (textsL rows).length := by rw [HTX.out, List.length_map]; exact hjR
      rw [List.take_succ_eq_append_getElem hjt]
      congr 2
      simp only [HTX.out, List.getElem_map]
     have HTK := Hi htk
     clear htk x0' y0'
     generalize R[j].headD ByteArray.empty = s at *
     clear hjR
     go_wp2_with (at_builtin; refine wpL_appendN (us := [.string s]) rfl (.tmp 42) (.tmp 49) 81 rfl ti22r rfl hO3.out rfl rfl rfl (by show (j + 1) * 16 ≤ _; omega) (by show j + 1 ≤ _; unfold maxLen; omega) ?_; intro a5 c5 w5 hO5 hG5 _
                  have HO5 := Hi hO5; have HG5 := Hi hG5; clear hO5 hG5)
     go_roundw
     case rel =>
      refine ⟨j + 1, a5, c5, rfl, by go_num, hlj, Hi (by rw [HTK.out, sts_append]; exact HO5.out), Hi (fun b hb => ?_), Hi (hM3.out.step HG5.out.mod (fun b hb e => by have h1 := hF3.out b e; omega))⟩
      rcases HG5.out.pos with e | ⟨g, e, hg⟩
      ·rw [e] at hb; exact hF3.out b hb
      ·rw [e] at hb; cases hb; have h1 := hM3.out.size; omega
     case measure => simp [intOf]; omega
    ·obtain rfl : j = t := by omega
     have htt : (textsL rows).length = j := by rw [HTX.out, List.length_map, HTL.out]
     rw [List.take_of_length_le (by omega)] at hO3
     have HTT := Hi htt
     clear htt
     go_wp2_with fail
     go_ret
     exact ⟨⟨oa3, oc3, by rw [HTT.out]; rfl, hO3.out.rd⟩, HM2.out.step hM3.out fun _ _ e => e⟩
end Go.Proofs.YtjoiaejbahdjkaaGreat
/-
  The document's May: walked.
-/
namespace Go.Proofs.YtjoiaejbahdjkaaGreat
open Go Go.RowKit Go.Mine
set_option linter.unusedVariables false
set_option maxHeartbeats 4000000
set_option maxRecDepth 100000
structure RelI (w : World) (nm : ByteArray) (A : Nat) (a : Option Addr) (c : Nat) (ha : List Value) (rows : List (List ByteArray)) : Prop where
 rd : LLR w a ha (rows.map sts)
 len : ∀ r ∈ rows, r.length = A
 al : A ≤ 64
 nl : nm.size ≤ 4096
 sz : ∀ r ∈ rows, ∀ s ∈ r, s.size ≤ 4096
 few : rows.length ≤ 65536
 cap : rows.length ≤ c
theorem RelI.mod0 {w w' : World} {nm : ByteArray} {A : Nat} {a : Option Addr} {c : Nat} {ha : List Value} {rows : List (List ByteArray)} (h : RelI w nm A a c ha rows) (m : Mod (fun _ => False) w w') : RelI w' nm A a c ha rows := ⟨h.rd.mod0 m, h.len, h.al, h.nl, h.sz, h.few, h.cap⟩
theorem may_any (nm : ByteArray) (A : Nat) (a : Option Addr) (c : Nat) (ha : List Value) (rows : List (List ByteArray)) (w : World) (h : RelI w nm A a c ha rows) :
 Calls Tryz.prog 112 #[.agg #[.string nm, .int .i64 A, .slice a rows.length c]] w fun e w' => e = .returned (.int .i64 0) ∧ Mod (fun _ => False) w w' := by
 have H := Hi h
 have hA := h.al
 have hfew := h.few
 have hnl := h.nl
 clear h
 obtain ⟨n, hn⟩ : ∃ n, n = rows.length := ⟨_, rfl⟩
 have HN := Hi hn
 rw [← hn] at hfew ⊢
 clear hn
 go_enter Tryz.func112, Tryz.ntmps112
 go_wp2_with fail
 have hb0 := heap_alloc_new w (.cells #[.string nm, .int .i64 A, .slice a n c] 86)
 have HB0 := Hi hb0
 have HM0 := Hi ((Mod.refl (fun _ => False) w).alloc (.cells #[.string nm, .int .i64 A, .slice a n c] 86))
 obtain ⟨B, hB⟩ : ∃ B, B = w.heap.size := ⟨_, rfl⟩
 rw [← hB] at HB0 ⊢
 clear hb0 hB
 generalize w.alloc (.cells #[.string nm, .int .i64 A, .slice a n c] 86) = w1 at *
 have H1 := Hi (H.out.mod0 HM0.out)
 go_loopw [3] (fun iv wr => ∃ i : Nat, iv = .int .i64 i ∧ i ≤ n ∧ Hid (Mod (fun _ => False) w1 wr)) (fun iv _ => n - (intOf iv).toNat)
 case atStart => exact ⟨0, rfl, Nat.zero_le _, Hi (Mod.refl _ _)⟩
 case round =>
  obtain ⟨i, rfl, hi, hM⟩ := hrel
  have hbw := hM.out.at HB0.out id
  have c0 := cell_at (j := 0) hbw rfl; have c1 := cell_at (j := 1) hbw rfl; have c2 := cell_at (j := 2) hbw rfl
  clear hbw
  by_cases hlt : i < n
  ·have hil : i < rows.length := by have := HN.out; omega
   obtain ⟨b1, o1, x, xc, rfl, x0', x9⟩ := row_get H1.out.rd H1.out.len hil
   have x0 := hM.out.cell x0' id
   clear x0' x9 hil
   go_wp2_with fail
   refine wp_region_ord (fun w' => w'.cell? ⟨B, 2, none⟩ = some (.slice (some ⟨b1, o1, none⟩) n c) ∧ w'.cell? ⟨B, 1, none⟩ = some (.int .i64 A) ∧ w'.cell? ⟨b1, o1 + i, none⟩ = some (.slice x A xc)) [(0, 0), (1, 1), (0, 2), (0, 3), (1, 4), (0, 5), (0, 6), (1, 7), (0, 8)] (by kernel_rfl) (by kernel_rfl) ?_
   go_wp2_with (first
    |(refine ord_pure rfl rfl rfl (fun K hK => ?_); go_big_quiet_op; refine hK _ ?_; clear hK K)
    |(refine ord_held rfl rfl rfl (⟨c2, c1, x0⟩) (fun K hK => ?_); apply Exists.intro; refine ⟨fun w' hs => ?_, hK _ ?_⟩; (revert hs; dsimp only; (try simp only [and_imp]); intros; go_simp; rfl); clear hK K)
    |(refine ord_nil ?_))
   go_roundw
   case rel => exact ⟨i + 1, by go_num, hlt, Hi hM.out.drew⟩
   case measure => simp [intOf]; omega
  ·obtain rfl : n = i := by omega
   have hM1 := hM
   clear hM
   rename World => w2
   go_wp2_with fail
   go_loopw [4, 5] (fun iv _ wr => ∃ i : Nat, iv = .int .i64 i ∧ i ≤ n ∧ wr = w2) (fun iv _ _ => n - (intOf iv).toNat)
   case atStart => exact ⟨0, rfl, Nat.zero_le _, rfl⟩
   case round =>
    obtain ⟨i, rfl, hi, hww⟩ := hrel
    obtain rfl : w2 = wr := hww.symm
    clear hww
    by_cases hlt : i < n
    ·have hil : i < rows.length := by have := HN.out; omega
     obtain ⟨b1, o1, x, xc, rfl, x0', hxr⟩ := row_get H1.out.rd H1.out.len hil
     have x0 := hM1.out.cell x0' id
     have hlen : (rows[i]).length = A := H1.out.len _ (List.getElem_mem hil)
     have hsz : ∀ s ∈ rows[i], s.size ≤ 4096 := H1.out.sz _ (List.getElem_mem hil)
     obtain ⟨row, hrow⟩ : ∃ row, row = rows[i] := ⟨_, rfl⟩
     rw [← hrow] at hxr hlen hsz
     have HXR := Hi hxr; have HLEN := Hi hlen; have HSZ := Hi hsz
     clear hrow hxr hlen hsz x0' hil
     go_wp2_with fail
     go_loopw [5] (fun kv wr => ∃ k : Nat, kv = .int .i64 k ∧ k ≤ A ∧ wr = w2) (fun kv _ => A - (intOf kv).toNat)
     case atStart => exact ⟨0, rfl, Nat.zero_le _, rfl⟩
     case round =>
      obtain ⟨k, rfl, hk, hww⟩ := hrel
      obtain rfl : w2 = wr := hww.symm
      clear hww
      by_cases hlk : k < A
      ·have hkr : k < row.length := by rw [HLEN.out]; exact hlk
       obtain ⟨b2, o2, rfl, y0'⟩ := str_cell HXR.out hkr
       have y0 := hM1.out.cell y0' id
       have hs4 : row[k].size ≤ 4096 := HSZ.out _ (List.getElem_mem hkr)
       generalize row[k] = s at *
       have hd4 : decide (4096 < (s.size : Int)) = false := by simp; omega
       clear y0' hkr
       go_wp2_with fail
       go_roundw
       case rel => exact ⟨k + 1, by go_num, hlk, trivial⟩
       case measure => simp [intOf]; omega
      ·obtain rfl : A = k := by omega
       go_wp2_with fail
       go_roundw
       case rel => exact ⟨i + 1, by go_num, hlt, trivial⟩
       case measure => simp [intOf]; omega
    ·obtain rfl : n = i := by omega
     have HRI := Hi (rising_any _ a c ha rows A w2 (Nat.le_refl _) (H1.out.rd.mod0 hM1.out) H1.out.len (by omega) (by have := HN.out; omega) H1.out.cap)
     rw [← HN.out] at HRI
     have hrl : (riseG belowL rows).length ≤ 65536 := by have := (rise_spec strict_below _ rows (Nat.le_refl _)).2.2; have := HN.out; omega
     unfold RisP at HRI
     generalize riseG belowL rows = R at *
     obtain ⟨t, ht⟩ : ∃ t, t = R.length := ⟨_, rfl⟩
     rw [← ht] at hrl HRI
     clear ht
     go_wp2_with fail
     refine HRI.out.mono ?_
     rintro e w3 ⟨⟨oa, oc, hs, rfl, _⟩, hm3⟩
     have HM3 := Hi ((HM0.out.step hM1.out fun _ _ e => e).step hm3 fun _ _ e => e)
     clear hm3
     go_wp2_with fail
     go_ret
     exact ⟨rfl, HM3.out⟩
end Go.Proofs.YtjoiaejbahdjkaaGreat
namespace Go.Proofs.YtjoiaejbahdjkaaGreat
open Go Go.RowKit Go.Mine
set_option maxHeartbeats 400000
set_option maxRecDepth 100000
set_option linter.unusedVariables false
theorem refPage_any (a : Option Addr) (l : List ByteArray) (c : Nat) (w : World) (hr : Rd w a (sts l)) (hl : l.length ≤ 4194304) (hsz : ∀ s ∈ l, s.size < 2^40) :
 Calls Tryz.prog 116 #[.slice a l.length c] w fun e w' => ∃ v, e = .returned (.tuple #[v, .int .i64 (pgErr none l)]) ∧ PgRes w w' l v := by
 have HR := Hi hr; have HS := Hi hsz; clear hr hsz
 go_enter Tryz.func116, Tryz.ntmps116
 go_wp2_with (go_at_call 88; refine (put_any l.length _ (by omega)).mono ?_; rintro e w1 ⟨g1, c1, rfl, hO1, hg1, hM1⟩; have HO1 := Hi hO1; have HM1 := Hi hM1; clear hO1 hM1)
 go_loopw [5, 4] (fun i b wr => ∃ (k : Nat) (g c' : Nat) (bs : List UInt8), i = .int .i64 k ∧ b = .slice (some ⟨g, 0, none⟩) bs.length c' ∧ k ≤ l.length ∧ Hid (bs = lebl l.length ++ pgBody (l.take k)) ∧ bs.length < 2^36 ∧
  Hid (Mine.Own wr 5 1 (some ⟨g, 0, none⟩) bs.length c' (bts bs)) ∧ w.heap.size ≤ g ∧ Hid (Mod (fun _ => False) w wr)
  ∧ Hid (pgErr none l = pgErr (prevAt l k) (l.drop k)) ∧ Hid (∀ s ∈ l.take k, s.size ≤ 4096)) (fun i _ _ => l.length - (intOf i).toNat)
 case atStart => exact ⟨0, g1, c1, lebl l.length, rfl, rfl, by omega, Hi (by simp [pgBody]), by have := lebl_len64 l.length (by omega); omega, HO1, hg1, HM1, Hi (by simp [prevAt]), Hi (by simp)⟩
 case round =>
  obtain ⟨k, g, c', bs, rfl, rfl, hk, hB, hbl, hO, hg, hM, hE, hZ⟩ := hrel
  by_cases hlt : k < l.length
  ·have hrd := Hi (HR.out.mod hM.out (fun _ _ => id))
   obtain ⟨b, o, e, hc⟩ := hrd.out k (.string l[k]) (by simp [sts, hlt])
   subst e
   have hdrop : l.drop k = l[k] :: l.drop (k + 1) := List.drop_eq_getElem_cons hlt
   have HD := Hi hdrop; clear hdrop
   have hsz := HS.out l[k] (List.getElem_mem _)
   generalize hs : l[k] = s at *
   have HSK := Hi hs; clear hs
   by_cases hbig : 4096 < s.size
   ·go_wp2
    go_ret2
    have e : pgErr none l = 3 := by rw [hE.out, HD.out, pgErr_cons, if_pos hbig]
    exact ⟨.slice none 0 0, by rw [e]; rfl, PgRes.err hM.out (by rw [e]; omega)⟩
   ·have hprev : prevAt l (k + 1) = some s := by simp [prevAt, HSK.out, hlt]
    have HPV := Hi hprev; clear hprev
    have hsum : bs.length + (lebl s.size).length + s.size < 2 ^ 36 := by
     have h1 := lebl_len64 l.length (by omega)
     have h2 := pgBody_len hZ.out
     have h3 := lebl_len64 s.size (by omega)
     rw [hB.out]
     simp only [List.length_append, List.length_take] at h2 ⊢
     omega
    have hll := lebl_len64 s.size (by omega)
    have hR0 := HR.out.lt (by intro h; simp [sts] at h; rw [h] at hlt; simp at hlt) b rfl
    by_cases hk0 : 0 < k
    ·have hq1 : k - 1 < l.length := by omega
     obtain ⟨b2, o2, e2, hcq⟩ := hrd.out (k - 1) (.string l[k - 1]) (by simp [sts, hq1])
     cases e2
     generalize hq : l[k - 1] = q at *
     have HQ := Hi hq; clear hq
     have hkn : ((k : Int) - 1).toNat = k - 1 := by omega
     have hpk : prevAt l k = some q := by unfold prevAt; rw [if_neg (by omega), ← HQ.out]; simp [hq1]
     have HPK := Hi hpk; clear hpk
     by_cases hb2 : blt q s = true
     ·have hb3 : Op.bytesLess q.toList s.toList = true := hb2
      have HB2 := Hi hb2; clear hb2
      go_wp2
      refine wp_region_ord (fun w' => w'.cell? ⟨b, o + (k - 1), none⟩ = some (.string q) ∧ w'.cell? ⟨b, o + k, none⟩ = some (.string s)) [(0, 0), (0, 1), (0, 2), (0, 3), (0, 4), (0, 5), (0, 6), (1, 7), (0, 8), (0, 9), (0, 10), (1, 11), (0, 12), (0, 13), (0, 14)] (by kernel_rfl) (by kernel_rfl) ?_
      go_wp2_with (first
       |(refine ord_pure rfl rfl rfl (fun K hK => ?_); go_big_quiet_op; refine hK _ ?_; clear hK K)
       |(refine ord_skip rfl rfl ?_; simp only [Act.put, List.setIfInBounds_toArray, List.set_cons_zero, List.set_cons_succ])
       |(refine ord_held rfl rfl rfl (by exact ⟨by simpa using hcq, by simpa using hc⟩) (fun K hK => ?_); apply Exists.intro; refine ⟨fun w' hs => ?_, hK _ ?_⟩; (revert hs; dsimp only; (try simp only [and_imp]); intros; go_simp; rfl); clear hK K)
       |(refine ord_nil ?_))
      go_wp2_with (first
       |(go_at_call 88; refine (put_any s.size _ (by omega)).mono ?_; rintro e w2 ⟨g2, c2, rfl, hO2, hg2, hM2⟩
         have hcc2 := hM2.cell (p := ⟨b, o + k, none⟩) (v := .string s) (by simpa using hc) id
         have HO2 := Hi hO2; have HM2 := Hi hM2; clear hO2 hM2)
       |(at_builtin; refine wpL_append rfl (.tmp 40) (.tmp 47) 23 23 rfl ti24 rfl (hO.out.mod ((Mod.refl (fun _ => False) wr).drew.trans HM2.out) (fun _ _ => id)) rfl (Src.ofRd ti24.ht _ _ HO2.out.rd (by simp) (bts_one _)) (by omega) (by unfold maxLen; omega) ?_; intro a3 c3 w3 hO3 hG3 _
         have hcc3 := hG3.mod.cell (p := ⟨b, o + k, none⟩) hcc2 (fun h => by simp at h; omega)
         have HO3 := Hi hO3; have HG3 := Hi hG3; clear hO3 hG3)
       |(at_builtin; refine wpL_append rfl (.tmp 49) (.tmp 53) 23 9 rfl ti24 rfl HO3.out rfl (Src.ofString _ (by kernel_rfl) s) (by omega) (by unfold maxLen; omega) ?_; intro a4 c4 w4 hO4 hG4 _
         have HO4 := Hi hO4; have HG4 := Hi (HG3.out.trans hG4); clear hO4 hG4))
      obtain ⟨g4, rfl⟩ := HO4.out.atHead (by have := lebl_pos s.size; omega)
      have hes : s.size = s.data.toList.length := Lib.size_eq s
      go_roundw
      case rel =>
       have e : pgErr none l = pgErr (some s) (l.drop (k + 1)) := by rw [hE.out, HD.out, pgErr_cons, if_neg hbig]; rw [HPK.out]; simp [HB2.out]
       have hlen : (bs ++ lebl s.size ++ s.data.toList).length = bs.length + (lebl s.size).length + s.size := by rw [hes]; simp; omega
       refine ⟨k + 1, g4, c4, bs ++ lebl s.size ++ s.data.toList, by go_num, by rw [hlen], by omega, ?_, by rw [hlen]; exact hsum, ?_, ?_, ?_, ?_, ?_⟩
       ·unfold Hid; rw [hB.out, pgBody_snoc l k hlt, HSK.out]; simp [List.append_assoc]
       ·rw [hlen, bts_append, bts_append, ← bts_byteCells]; exact HO4.out
       ·rcases HG4.out.pos with e' | ⟨b2, e', h2⟩
        ·simp at e'; omega
        ·simp at e'; have := hM.out.size; have := HM2.out.size; simp at this; omega
       ·exact (hM.out.drew.step HM2.out (fun _ _ => id)).step HG4.out.mod (fun i hi hs => by simp at hs; omega)
       ·unfold Hid; rw [HPV.out]; exact e
       ·intro s' hs'
        rw [List.take_succ_eq_append_getElem hlt] at hs'
        rcases List.mem_append.1 hs' with h | h
        ·exact hZ.out s' h
        ·simp at h; subst h; rw [HSK.out]; omega
      case measure => simp [intOf]; omega
     ·have hb3 : Op.bytesLess q.toList s.toList = false := by simpa [blt] using hb2
      have HB2 := Hi hb2; clear hb2
      go_wp2
      refine wp_region_ord (fun w' => w'.cell? ⟨b, o + (k - 1), none⟩ = some (.string q) ∧ w'.cell? ⟨b, o + k, none⟩ = some (.string s)) [(0, 0), (0, 1), (0, 2), (0, 3), (0, 4), (0, 5), (0, 6), (1, 7), (0, 8), (0, 9), (0, 10), (1, 11), (0, 12), (0, 13), (0, 14)] (by kernel_rfl) (by kernel_rfl) ?_
      go_wp2_with (first
       |(refine ord_pure rfl rfl rfl (fun K hK => ?_); go_big_quiet_op; refine hK _ ?_; clear hK K)
       |(refine ord_skip rfl rfl ?_; simp only [Act.put, List.setIfInBounds_toArray, List.set_cons_zero, List.set_cons_succ])
       |(refine ord_held rfl rfl rfl (by exact ⟨by simpa using hcq, by simpa using hc⟩) (fun K hK => ?_); apply Exists.intro; refine ⟨fun w' hs => ?_, hK _ ?_⟩; (revert hs; dsimp only; (try simp only [and_imp]); intros; go_simp; rfl); clear hK K)
       |(refine ord_nil ?_))
      go_ret2
      have e : pgErr none l = 2 := by rw [hE.out, HD.out, pgErr_cons, if_neg hbig, HPK.out]; simp [HB2.out]
      exact ⟨.slice none 0 0, by rw [e]; rfl, PgRes.err hM.out.drew (by rw [e]; omega)⟩
    ·have hkz : decide (0 < k) = false := by simpa using hk0
     have HK0 := Hi (show k = 0 by omega)
     go_wp2
     refine wp_region_ord (fun w' => w'.cell? ⟨b, o + k, none⟩ = some (.string s)) [(0, 0), (0, 1), (0, 2), (0, 3), (0, 4), (0, 5), (0, 6), (1, 7), (0, 8), (0, 9), (0, 10), (1, 11), (0, 12), (0, 13), (0, 14)] (by kernel_rfl) (by kernel_rfl) ?_
     go_wp2_with (first
      |(refine ord_pure rfl rfl rfl (fun K hK => ?_); go_big_quiet_op; refine hK _ ?_; clear hK K)
      |(refine ord_skip rfl rfl ?_; simp only [Act.put, List.setIfInBounds_toArray, List.set_cons_zero, List.set_cons_succ])
      |(refine ord_held rfl rfl rfl (by simpa using hc) (fun K hK => ?_); apply Exists.intro; refine ⟨fun w' hs => ?_, hK _ ?_⟩; (revert hs; dsimp only; (try simp only [and_imp]); intros; go_simp; rfl); clear hK K)
      |(refine ord_nil ?_))
     go_wp2_with (first
      |(go_at_call 88; refine (put_any s.size _ (by omega)).mono ?_; rintro e w2 ⟨g2, c2, rfl, hO2, hg2, hM2⟩
        have hcc2 := hM2.cell (p := ⟨b, o + k, none⟩) (v := .string s) (by simpa using hc) id
        have HO2 := Hi hO2; have HM2 := Hi hM2; clear hO2 hM2)
      |(at_builtin; refine wpL_append rfl (.tmp 40) (.tmp 47) 23 23 rfl ti24 rfl (hO.out.mod ((Mod.refl (fun _ => False) wr).drew.trans HM2.out) (fun _ _ => id)) rfl (Src.ofRd ti24.ht _ _ HO2.out.rd (by simp) (bts_one _)) (by omega) (by unfold maxLen; omega) ?_; intro a3 c3 w3 hO3 hG3 _
        have hcc3 := hG3.mod.cell (p := ⟨b, o + k, none⟩) hcc2 (fun h => by simp at h; omega)
        have HO3 := Hi hO3; have HG3 := Hi hG3; clear hO3 hG3)
      |(at_builtin; refine wpL_append rfl (.tmp 49) (.tmp 53) 23 9 rfl ti24 rfl HO3.out rfl (Src.ofString _ (by kernel_rfl) s) (by omega) (by unfold maxLen; omega) ?_; intro a4 c4 w4 hO4 hG4 _
        have HO4 := Hi hO4; have HG4 := Hi (HG3.out.trans hG4); clear hO4 hG4))
     obtain ⟨g4, rfl⟩ := HO4.out.atHead (by have := lebl_pos s.size; omega)
     have hes : s.size = s.data.toList.length := Lib.size_eq s
     go_roundw
     case rel =>
      have e : pgErr none l = pgErr (some s) (l.drop (k + 1)) := by rw [hE.out, HD.out, pgErr_cons, if_neg hbig]; simp [prevAt, HK0.out]
      have hlen : (bs ++ lebl s.size ++ s.data.toList).length = bs.length + (lebl s.size).length + s.size := by rw [hes]; simp; omega
      refine ⟨k + 1, g4, c4, bs ++ lebl s.size ++ s.data.toList, by go_num, by rw [hlen], by omega, ?_, by rw [hlen]; exact hsum, ?_, ?_, ?_, ?_, ?_⟩
      ·unfold Hid; rw [hB.out, pgBody_snoc l k hlt, HSK.out]; simp [List.append_assoc]
      ·rw [hlen, bts_append, bts_append, ← bts_byteCells]; exact HO4.out
      ·rcases HG4.out.pos with e' | ⟨b2, e', h2⟩
       ·simp at e'; omega
       ·simp at e'; have := hM.out.size; have := HM2.out.size; simp at this; omega
      ·exact (hM.out.drew.step HM2.out (fun _ _ => id)).step HG4.out.mod (fun i hi hs => by simp at hs; omega)
      ·unfold Hid; rw [HPV.out]; exact e
      ·intro s' hs'
       rw [List.take_succ_eq_append_getElem hlt] at hs'
       rcases List.mem_append.1 hs' with h | h
       ·exact hZ.out s' h
       ·simp at h; subst h; rw [HSK.out]; omega
     case measure => simp [intOf]; omega
  ·obtain rfl : k = l.length := by omega
   have e : pgErr none l = 0 := by rw [hE.out, List.drop_length]; cases prevAt l l.length <;> rfl
   have HE := Hi e; clear e
   go_wp2
   go_ret2
   have h2 := hO.out
   have hb := hB.out
   rw [List.take_length] at hb
   have hb' : bs = pgBytes l := hb
   subst hb'
   exact ⟨_, by rw [HE.out]; rfl, PgRes.ok hM.out HE.out h2.rd⟩
end Go.Proofs.YtjoiaejbahdjkaaGreat
