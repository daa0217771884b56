/-
  Are two rules the same? Both answers.
-/
import Derived.Test.YtphgglnkdfndiaaDoorSameG
import Derived.Deep.RegionHeld3
import Derived.Deep.DeepCutAuto
import Derived.BigRegion
namespace Go.Proofs.YtphgglnkdfndiaaDoor
open Go Go.RowKit Go.Mine
set_option linter.unusedVariables false
set_option maxHeartbeats 4000000
set_option maxRecDepth 100000

theorem Same_any (r q : Rm) (s1 s2 b1 b2 : Value) (w : World) (h1 : TsAt w s1 r.head.terms) (h2 : TsAt w s2 q.head.terms) (g1 : LsAt w b1 r.body) (g2 : LsAt w b2 q.body)
    (hn1 : r.head.terms.length < 2 ^ 30) (hm1 : q.head.terms.length < 2 ^ 30) (hn2 : r.body.length < 2 ^ 30) (hm2 : q.body.length < 2 ^ 30) (hn3 : ∀ l ∈ r.body, l.atom.terms.length < 2 ^ 30) (hm3 : ∀ l ∈ q.body, l.atom.terms.length < 2 ^ 30) :
    Calls Tryd.prog 27 #[rmV r s1 b1, rmV q s2 b2] w (SayEq r q w) := by
  obtain ⟨⟨pr, hts⟩, ls⟩ := r
  obtain ⟨⟨qr, gts⟩, ms⟩ := q
  unfold rmV
  simp only at *
  have HT1 := Lib.hid h1; have HT2 := Lib.hid h2
  obtain ⟨a1, c1, rfl, _⟩ := h1
  obtain ⟨a2, c2, rfl, _⟩ := h2
  obtain ⟨d1, k1, xs1, rfl, hx1, hr1, ht1⟩ := g1
  obtain ⟨d2, k2, xs2, rfl, hx2, hr2, ht2⟩ := g2
  have HX1 := Lib.hid hx1; have HR1 := Lib.hid hr1; have HXT1 := Lib.hid ht1
  have HX2 := Lib.hid hx2; have HR2 := Lib.hid hr2; have HXT2 := Lib.hid ht2
  have HN3 := Lib.hid hn3; have HM3 := Lib.hid hm3
  clear hx1 hr1 ht1 hx2 hr2 ht2 hn3 hm3
  have hm0 : Mod (fun _ => False) w ((w.alloc (.cells #[.string pr, .slice a1 hts.length c1, .slice d1 ls.length k1] 38)).alloc (.cells #[.string qr, .slice a2 gts.length c2, .slice d2 ms.length k2] 38)) := ((Mod.refl _ w).alloc _).alloc _
  have q1 : ((w.alloc (.cells #[.string pr, .slice a1 hts.length c1, .slice d1 ls.length k1] 38)).alloc (.cells #[.string qr, .slice a2 gts.length c2, .slice d2 ms.length k2] 38)).cell? ⟨w.heap.size, 2, none⟩ = some (.slice d1 ls.length k1) := cell_old (cell_new rfl)
  have q2 : ((w.alloc (.cells #[.string pr, .slice a1 hts.length c1, .slice d1 ls.length k1] 38)).alloc (.cells #[.string qr, .slice a2 gts.length c2, .slice d2 ms.length k2] 38)).cell? ⟨w.heap.size + 1, 2, none⟩ = some (.slice d2 ms.length k2) := cell_new rfl (by simp)
  have HA := Lib.hid (SameAtom_any pr qr hts gts _ _ _ (HT1.out.mod0 hm0) (HT2.out.mod0 hm0) hn1 hm1)
  obtain ⟨w0, hw0⟩ : ∃ w0, w0 = ((w.alloc (.cells #[.string pr, .slice a1 hts.length c1, .slice d1 ls.length k1] 38)).alloc (.cells #[.string qr, .slice a2 gts.length c2, .slice d2 ms.length k2] 38)) := ⟨_, rfl⟩
  have HMW : Hid (∀ w1, Mod (fun _ => False) ((w.alloc (.cells #[.string pr, .slice a1 hts.length c1, .slice d1 ls.length k1] 38)).alloc (.cells #[.string qr, .slice a2 gts.length c2, .slice d2 ms.length k2] 38)) w1 → Mod (fun _ => False) w0 w1) := by rw [hw0]; exact fun _ h => h
  have HM0 : Hid (Mod (fun _ => False) w w0) := by rw [hw0]; exact hm0
  have HQ1 : Hid (w0.cell? ⟨w.heap.size, 2, none⟩ = some (.slice d1 ls.length k1)) := by rw [hw0]; exact q1
  have HQ2 : Hid (w0.cell? ⟨w.heap.size + 1, 2, none⟩ = some (.slice d2 ms.length k2)) := by rw [hw0]; exact q2
  clear hm0 q1 q2 hw0
  go_enter Tryd.func27, Tryd.ntmps27
  go_wp2_with fail
  refine HA.out.mono ?_
  rintro e w1 ⟨t, rfl, ht, hM1⟩
  have HM1 := Lib.hid (HMW.out _ hM1)
  have t1 := HM1.out.cell HQ1.out id
  have t2 := HM1.out.cell HQ2.out id
  have HT := Lib.hid ht
  clear hM1 HMW HA ht
  by_cases htt : t = true
  rotate_left
  · have htf : t = false := by simpa using htt
    subst htf
    go_wp2_with fail
    go_ret
    exact ⟨false, rfl, ⟨fun h => (by cases h), fun h => absurd (HT.out.2 (by cases h; rfl)) (by simp)⟩, HM0.out.trans HM1.out⟩
  subst htt
  have hea := HT.out.1 rfl
  cases hea
  by_cases hl : ls.length = ms.length
  rotate_left
  · have hlb := int_bne hl
    go_wp2_with fail
    go_ret
    exact ⟨false, rfl, ⟨fun h => (by cases h), fun h => absurd (by cases h; rfl) hl⟩, HM0.out.trans HM1.out⟩
  have hl' : ms.length = ls.length := hl.symm
  rw [hl'] at t2 HQ2
  have HL := Lib.hid hl
  clear hl hl'
  go_wp2_with fail
  go_loopw [5] (fun iv wr => ∃ k : Nat, iv = .int .i64 k ∧ k ≤ ls.length ∧ Hid (ls.take k = ms.take k) ∧ Hid (Mod (fun _ => False) w0 wr)) (fun iv _ => ls.length - (intOf iv).toNat)
  case atStart => exact ⟨0, rfl, Nat.zero_le _, Lib.hid rfl, HM1⟩
  case round =>
    obtain ⟨k, rfl, hk, hTk, hM⟩ := hrel
    have t1 := hM.out.cell HQ1.out id
    have t2 := hM.out.cell HQ2.out id
    clear HM1
    by_cases hlt : k < ls.length
    · have hlt2 : k < ms.length := by have := HL.out; omega
      obtain ⟨sk1, hx1, hmem1⟩ := xs_get HX1.out hlt
      obtain ⟨sk2, hx2, hmem2⟩ := xs_get HX2.out hlt2
      obtain ⟨b1, o1, rfl, x0, x1, x2, x3, x4, x5, x6, x7⟩ := rd_cell8 (HR1.out.mod (HM0.out.trans hM.out) (fun _ _ => id)) hx1
      obtain ⟨b2, o2, rfl, y0, y1, y2, y3, y4, y5, y6, y7⟩ := rd_cell8 (HR2.out.mod (HM0.out.trans hM.out) (fun _ _ => id)) hx2
      have htn := HN3.out _ (List.getElem_mem hlt)
      have htm := HM3.out _ (List.getElem_mem hlt2)
      have HTS1 := Lib.hid (HXT1.out _ hmem1)
      have HTS2 := Lib.hid (HXT2.out _ hmem2)
      obtain ⟨sa1, sc1, hsk1, _⟩ := HXT1.out _ hmem1
      obtain ⟨sa2, sc2, hsk2, _⟩ := HXT2.out _ hmem2
      simp only at hsk1 hsk2
      subst hsk1 hsk2
      clear hx1 hx2 hmem1 hmem2
      have HN := Lib.hid (fun h => take_ne hlt hlt2 h)
      have HMo := Lib.hid (fun h => take_more hlt hlt2 hTk.out h)
      generalize ls[k] = t at *
      generalize ms[k] = u at *
      clear hlt2
      obtain ⟨lk, ⟨lp, lts⟩, lo, ⟨ll1, ll2⟩, ⟨lr1, lr2⟩⟩ := t
      obtain ⟨mk, ⟨mp, mts⟩, mo, ⟨ml1, ml2⟩, ⟨mr1, mr2⟩⟩ := u
      simp only at x0 x1 x2 x3 x4 x5 x6 x7 y0 y1 y2 y3 y4 y5 y6 y7 HTS1 HTS2 htn htm ⊢
      go_wp2_with fail
      go_cut [6, 7] (fun s6 s7 wx => ∃ gx gy : Nat, s6 = .pointer (some ⟨gx, 0, none⟩) ∧ s7 = .pointer (some ⟨gy, 0, none⟩) ∧ Hid (wx.heap[gx]? = some (.cells #[.int .i64 lk, .string lp, .slice sa1 lts.length sc1, .int .i64 lo, .int .i64 ll1, .string ll2, .int .i64 lr1, .string lr2] 44 (0, 0))) ∧ Hid (wx.heap[gy]? = some (.cells #[.int .i64 mk, .string mp, .slice sa2 mts.length sc2, .int .i64 mo, .int .i64 ml1, .string ml2, .int .i64 mr1, .string mr2] 44 (0, 0))) ∧ Hid (Mod (fun _ => False) wr wx))
      case first =>
        go_region_held3 (fun w' => (w'.cell? ⟨w.heap.size, 2, none⟩ = some (.slice (some ⟨b1, o1, none⟩) ls.length k1) ∧ w'.cell? ⟨w.heap.size + 1, 2, none⟩ = some (.slice (some ⟨b2, o2, none⟩) ls.length k2)) ∧ (w'.cell? ⟨b1, o1 + k * 8, none⟩ = some (.int .i64 lk) ∧ w'.cell? ⟨b1, o1 + k * 8 + 1, none⟩ = some (.string lp) ∧ w'.cell? ⟨b1, o1 + k * 8 + 2, none⟩ = some (.slice sa1 lts.length sc1) ∧ w'.cell? ⟨b1, o1 + k * 8 + 3, none⟩ = some (.int .i64 lo) ∧ w'.cell? ⟨b1, o1 + k * 8 + 4, none⟩ = some (.int .i64 ll1) ∧ w'.cell? ⟨b1, o1 + k * 8 + 5, none⟩ = some (.string ll2) ∧ w'.cell? ⟨b1, o1 + k * 8 + 6, none⟩ = some (.int .i64 lr1) ∧ w'.cell? ⟨b1, o1 + k * 8 + 7, none⟩ = some (.string lr2)) ∧ (w'.cell? ⟨b2, o2 + k * 8, none⟩ = some (.int .i64 mk) ∧ w'.cell? ⟨b2, o2 + k * 8 + 1, none⟩ = some (.string mp) ∧ w'.cell? ⟨b2, o2 + k * 8 + 2, none⟩ = some (.slice sa2 mts.length sc2) ∧ w'.cell? ⟨b2, o2 + k * 8 + 3, none⟩ = some (.int .i64 mo) ∧ w'.cell? ⟨b2, o2 + k * 8 + 4, none⟩ = some (.int .i64 ml1) ∧ w'.cell? ⟨b2, o2 + k * 8 + 5, none⟩ = some (.string ml2) ∧ w'.cell? ⟨b2, o2 + k * 8 + 6, none⟩ = some (.int .i64 mr1) ∧ w'.cell? ⟨b2, o2 + k * 8 + 7, none⟩ = some (.string mr2))) (go_keep) (fail)
        all_goals (go_wp2_with fail; go_meet)
        case rel => exact ⟨_, _, rfl, rfl, Lib.hid (heap_two1 _ _ _), Lib.hid (heap_two2 _ _ _), Lib.hid (((Mod.refl _ wr).alloc _).alloc _).drew⟩
        case rel => exact ⟨_, _, rfl, rfl, Lib.hid (heap_two2 _ _ _), Lib.hid (heap_two1 _ _ _), Lib.hid (((Mod.refl _ wr).alloc _).alloc _).drew⟩
      case rest =>
        obtain ⟨gx, gy, rfl, rfl, hgx, hgy, hMx⟩ := hcut
        have HMx := Lib.hid ((hM.out).trans hMx.out)
        have HA := Lib.hid (SameAtom_any lp mp lts mts _ _ wc (HTS1.out.mod0 (HM0.out.trans HMx.out)) (HTS2.out.mod0 (HM0.out.trans HMx.out)) htn htm)
        clear x0 x1 x2 x3 x4 x5 x6 x7 y0 y1 y2 y3 y4 y5 y6 y7 t1 t2
        have x0 := cell_at (j := 0) hgx.out rfl
        have x1 := cell_at (j := 1) hgx.out rfl
        have x2 := cell_at (j := 2) hgx.out rfl
        have x3 := cell_at (j := 3) hgx.out rfl
        have x4 := cell_at (j := 4) hgx.out rfl
        have x5 := cell_at (j := 5) hgx.out rfl
        have x6 := cell_at (j := 6) hgx.out rfl
        have x7 := cell_at (j := 7) hgx.out rfl
        have y0 := cell_at (j := 0) hgy.out rfl
        have y1 := cell_at (j := 1) hgy.out rfl
        have y2 := cell_at (j := 2) hgy.out rfl
        have y3 := cell_at (j := 3) hgy.out rfl
        have y4 := cell_at (j := 4) hgy.out rfl
        have y5 := cell_at (j := 5) hgy.out rfl
        have y6 := cell_at (j := 6) hgy.out rfl
        have y7 := cell_at (j := 7) hgy.out rfl
        by_cases e0 : lk = mk
        rotate_left
        · have e0' : (lk != mk) = true := by simpa using e0
          go_wp2_with fail
          go_ret
          exact ⟨false, rfl, ⟨fun h => (by cases h), fun h => absurd (by cases h; rfl) (HN.out (fun h => by cases h; exact e0 rfl))⟩, HM0.out.trans HMx.out⟩
        subst e0
        by_cases e1 : lo = mo
        rotate_left
        · have e1' : (lo != mo) = true := by simpa using e1
          go_wp2_with fail
          go_ret
          exact ⟨false, rfl, ⟨fun h => (by cases h), fun h => absurd (by cases h; rfl) (HN.out (fun h => by cases h; exact e1 rfl))⟩, HM0.out.trans HMx.out⟩
        subst e1
        by_cases e2 : (⟨ll1, ll2⟩ : Tm) = ⟨ml1, ml2⟩
        rotate_left
        · have e2' := tm_diff e2
          go_wp2_with fail
          go_ret
          exact ⟨false, rfl, ⟨fun h => (by cases h), fun h => absurd (by cases h; rfl) (HN.out (fun h => by cases h; exact e2 rfl))⟩, HM0.out.trans HMx.out⟩
        cases e2
        have hq1 := tm_same ll1 ll2
        by_cases e3 : (⟨lr1, lr2⟩ : Tm) = ⟨mr1, mr2⟩
        rotate_left
        · have e3' := tm_diff e3
          go_wp2_with fail
          go_ret
          exact ⟨false, rfl, ⟨fun h => (by cases h), fun h => absurd (by cases h; rfl) (HN.out (fun h => by cases h; exact e3 rfl))⟩, HM0.out.trans HMx.out⟩
        cases e3
        have hq2 := tm_same lr1 lr2
        go_wp2_with fail
        refine HA.out.mono ?_
        rintro e w2 ⟨t, rfl, ht, hM2⟩
        have HM2 := Lib.hid (HMx.out.trans hM2); clear hM2 HA
        have HT := Lib.hid ht; clear ht
        by_cases htt : t = true
        rotate_left
        · have htf : t = false := by simpa using htt
          subst htf
          go_wp2_with fail
          go_ret
          exact ⟨false, rfl, ⟨fun h => (by cases h), fun h => absurd (by cases h; rfl) (HN.out (fun h => absurd (HT.out.2 (by cases h; rfl)) (by simp)))⟩, HM0.out.trans HM2.out⟩
        subst htt
        have hea := HT.out.1 rfl
        cases hea
        go_wp2_with fail
        go_roundw
        case rel => exact ⟨k + 1, by go_num, hlt, Lib.hid (HMo.out trivial), HM2⟩
        case measure => simp [intOf]; omega
    · obtain rfl : k = ls.length := by omega
      go_wp2_with fail
      go_ret
      exact ⟨true, rfl, ⟨fun _ => (by rw [take_all rfl HL.out.symm hTk.out]), fun _ => rfl⟩, HM0.out.trans hM.out⟩
end Go.Proofs.YtphgglnkdfndiaaDoor
