/-
  Are two atoms, two rules the same? Walked where they are.
-/
import Derived.Test.YtphgglnkdfndiaaDoorRefMayG
import Derived.Deep.RegionHeld3
import Derived.Deep.DeepCutAuto
import Derived.BigRegion
namespace Go.Proofs.YtphgglnkdfndiaaDoor
open Go Go.RowKit Go.Mine
set_option linter.unusedVariables false
set_option maxHeartbeats 4000000
set_option maxRecDepth 100000

theorem heap_two1 (w : World) (a b : Obj) : ((w.alloc a).alloc b).drew.heap[w.heap.size]? = some a := by
  show ((w.heap.push a).push b)[w.heap.size]? = some a
  simp [Array.getElem?_push]
theorem heap_two2 (w : World) (a b : Obj) : ((w.alloc a).alloc b).drew.heap[w.heap.size + 1]? = some b := by
  have h := Array.getElem?_push_size (xs := w.heap.push a) (x := b)
  rw [Array.size_push] at h
  exact h
theorem tm_same (a : Int) (s : ByteArray) (w : World) : (binOp .neq 42 (.agg #[.int .i64 a, .string s]) (.agg #[.int .i64 a, .string s])).run Tryd.prog w = .ok (.bool false) w := by
  rw [tm_neql]; simp
theorem SameAtom_true (p : ByteArray) (ts : List Tm) (s1 s2 : Value) (w : World) (h1 : TsAt w s1 ts) (h2 : TsAt w s2 ts) (hn : ts.length < 2 ^ 30) :
    Calls Tryd.prog 50 #[.agg #[.string p, s1], .agg #[.string p, s2]] w fun e w' => e = .returned (.bool true) ∧ Mod (fun _ => False) w w' := by
  obtain ⟨a1, c1, rfl, hr1⟩ := h1
  obtain ⟨a2, c2, rfl, hr2⟩ := h2
  have hm0 : Mod (fun _ => False) w ((w.alloc (.cells #[.string p, .slice a1 ts.length c1] 35)).alloc (.cells #[.string p, .slice a2 ts.length c2] 35)) := ((Mod.refl _ w).alloc _).alloc _
  have d1 : ((w.alloc (.cells #[.string p, .slice a1 ts.length c1] 35)).alloc (.cells #[.string p, .slice a2 ts.length c2] 35)).cell? ⟨w.heap.size, 1, none⟩ = some (.slice a1 ts.length c1) := cell_old (cell_new rfl)
  have d2 : ((w.alloc (.cells #[.string p, .slice a1 ts.length c1] 35)).alloc (.cells #[.string p, .slice a2 ts.length c2] 35)).cell? ⟨w.heap.size + 1, 1, none⟩ = some (.slice a2 ts.length c2) := cell_new rfl (by simp)
  have HR1 := Lib.hid hr1; have HR2 := Lib.hid hr2
  clear hr1 hr2
  go_enter Tryd.func50, Tryd.ntmps50
  go_wp2_with fail
  generalize ((w.alloc (.cells #[.string p, .slice a1 ts.length c1] 35)).alloc (.cells #[.string p, .slice a2 ts.length c2] 35)) = w0 at *
  have HM0 := Lib.hid hm0; have HD1 := Lib.hid d1; have HD2 := Lib.hid d2
  clear hm0 d1 d2
  go_loopw [5] (fun iv wr => ∃ k : Nat, iv = .int .i64 k ∧ k ≤ ts.length ∧ Hid (Mod (fun _ => False) w0 wr)) (fun iv _ => ts.length - (intOf iv).toNat)
  case atStart => exact ⟨0, rfl, Nat.zero_le _, Lib.hid (Mod.refl _ w0)⟩
  case round =>
    obtain ⟨k, rfl, hk, hM⟩ := hrel
    have e1 := hM.out.cell HD1.out id
    have e2 := hM.out.cell HD2.out id
    by_cases hlt : k < ts.length
    · obtain ⟨b1, o1, rfl, x0, x1⟩ := rd_cell2 (HR1.out.mod (HM0.out.trans hM.out) (fun _ _ => id)) hlt
      obtain ⟨b2, o2, rfl, y0, y1⟩ := rd_cell2 (HR2.out.mod (HM0.out.trans hM.out) (fun _ _ => id)) hlt
      have hq := tm_same ts[k].kind ts[k].text
      generalize ts[k].kind = tk at *
      generalize ts[k].text = tx at *
      go_wp2_with fail
      refine wp_region_ord (fun w' => (w'.cell? ⟨w.heap.size, 1, none⟩ = some (.slice (some ⟨b1, o1, none⟩) ts.length c1) ∧ w'.cell? ⟨w.heap.size + 1, 1, none⟩ = some (.slice (some ⟨b2, o2, none⟩) ts.length c2)) ∧ (w'.cell? ⟨b1, o1 + k * 2, none⟩ = some (.int .i64 tk) ∧ w'.cell? ⟨b1, o1 + k * 2 + 1, none⟩ = some (.string tx)) ∧ (w'.cell? ⟨b2, o2 + k * 2, none⟩ = some (.int .i64 tk) ∧ w'.cell? ⟨b2, o2 + k * 2 + 1, none⟩ = some (.string tx))) [(0, 0), (1, 1), (0, 2), (0, 3), (1, 4), (0, 5), (1, 6), (0, 7), (0, 8), (1, 9), (0, 10)] (by kernel_rfl) (by kernel_rfl) ?_
      go_wp2_with (first
        | (refine ord_pure rfl rfl rfl (fun K hK => ?_); go_big_quiet_op; refine hK _ ?_; clear hK K)
                                                                | (refine ord_skip rfl rfl ?_; simp only [Act.put, List.setIfInBounds_toArray, List.set_cons_zero, List.set_cons_succ])
                                                                | (refine ord_held rfl rfl rfl (⟨⟨by simpa using e1, by simpa using e2⟩, ⟨by simpa using x0, by simpa using x1⟩, ⟨by simpa using y0, by simpa using y1⟩⟩) (fun K hK => ?_); apply Exists.intro; refine ⟨fun w' hs => ?_, hK _ ?_⟩; (revert hs; dsimp only; (try simp only [and_imp]); intros; go_simp; rfl); clear hK K)
                                                                | (refine ord_keep rfl rfl (⟨⟨by simpa using e1, by simpa using e2⟩, ⟨by simpa using x0, by simpa using x1⟩, ⟨by simpa using y0, by simpa using y1⟩⟩) (fun K hK => ?_))
                                                                | (refine ord_drop rfl rfl (fun K hK => ?_))
                                                                | (refine ord_nil ?_))
      go_roundw
      case rel => exact ⟨k + 1, by go_num, hlt, Lib.hid hM.out.drew⟩
      case measure => simp [intOf]; omega
    · obtain rfl : k = ts.length := by omega
      go_wp2_with fail
      go_ret
      exact ⟨rfl, HM0.out.trans hM.out⟩
theorem Same_true (r : Rm) (s1 s2 b1 b2 : Value) (w : World) (h1 : TsAt w s1 r.head.terms) (h2 : TsAt w s2 r.head.terms) (g1 : LsAt w b1 r.body) (g2 : LsAt w b2 r.body)
    (hn1 : r.head.terms.length < 2 ^ 30) (hn2 : r.body.length < 2 ^ 30) (hn3 : ∀ l ∈ r.body, l.atom.terms.length < 2 ^ 30) :
    Calls Tryd.prog 27 #[rmV r s1 b1, rmV r s2 b2] w fun e w' => e = .returned (.bool true) ∧ Mod (fun _ => False) w w' := by
  obtain ⟨⟨pr, hts⟩, ls⟩ := r
  unfold rmV
  simp only at *
  have HT1 := Lib.hid h1; have HT2 := Lib.hid h2
  obtain ⟨a1, c1, rfl, _⟩ := h1
  obtain ⟨a2, c2, rfl, _⟩ := h2
  obtain ⟨d1, k1, xs1, rfl, hx1, hr1, ht1⟩ := g1
  obtain ⟨d2, k2, xs2, rfl, hx2, hr2, ht2⟩ := g2
  have HX1 := Lib.hid hx1; have HR1 := Lib.hid hr1; have HXT1 := Lib.hid ht1
  have HX2 := Lib.hid hx2; have HR2 := Lib.hid hr2; have HXT2 := Lib.hid ht2
  have HN3 := Lib.hid hn3
  clear hx1 hr1 ht1 hx2 hr2 ht2 hn3
  have hm0 : Mod (fun _ => False) w ((w.alloc (.cells #[.string pr, .slice a1 hts.length c1, .slice d1 ls.length k1] 38)).alloc (.cells #[.string pr, .slice a2 hts.length c2, .slice d2 ls.length k2] 38)) := ((Mod.refl _ w).alloc _).alloc _
  have q1 : ((w.alloc (.cells #[.string pr, .slice a1 hts.length c1, .slice d1 ls.length k1] 38)).alloc (.cells #[.string pr, .slice a2 hts.length c2, .slice d2 ls.length k2] 38)).cell? ⟨w.heap.size, 2, none⟩ = some (.slice d1 ls.length k1) := cell_old (cell_new rfl)
  have q2 : ((w.alloc (.cells #[.string pr, .slice a1 hts.length c1, .slice d1 ls.length k1] 38)).alloc (.cells #[.string pr, .slice a2 hts.length c2, .slice d2 ls.length k2] 38)).cell? ⟨w.heap.size + 1, 2, none⟩ = some (.slice d2 ls.length k2) := cell_new rfl (by simp)
  have HA := Lib.hid (SameAtom_true pr hts _ _ _ (HT1.out.mod0 hm0) (HT2.out.mod0 hm0) hn1)
  obtain ⟨w0, hw0⟩ : ∃ w0, w0 = ((w.alloc (.cells #[.string pr, .slice a1 hts.length c1, .slice d1 ls.length k1] 38)).alloc (.cells #[.string pr, .slice a2 hts.length c2, .slice d2 ls.length k2] 38)) := ⟨_, rfl⟩
  have HMW : Hid (∀ w1, Mod (fun _ => False) ((w.alloc (.cells #[.string pr, .slice a1 hts.length c1, .slice d1 ls.length k1] 38)).alloc (.cells #[.string pr, .slice a2 hts.length c2, .slice d2 ls.length k2] 38)) w1 → Mod (fun _ => False) w0 w1) := by rw [hw0]; exact fun _ h => h
  have HM0 : Hid (Mod (fun _ => False) w w0) := by rw [hw0]; exact hm0
  have HQ1 : Hid (w0.cell? ⟨w.heap.size, 2, none⟩ = some (.slice d1 ls.length k1)) := by rw [hw0]; exact q1
  have HQ2 : Hid (w0.cell? ⟨w.heap.size + 1, 2, none⟩ = some (.slice d2 ls.length k2)) := by rw [hw0]; exact q2
  clear hm0 q1 q2 hw0
  go_enter Tryd.func27, Tryd.ntmps27
  go_wp2_with fail
  refine HA.out.mono ?_
  rintro e w1 ⟨rfl, hM1⟩
  have HM1 := Lib.hid (HMW.out _ hM1)
  have t1 := HM1.out.cell HQ1.out id
  have t2 := HM1.out.cell HQ2.out id
  clear hM1 HMW HA
  go_wp2_with fail
  go_loopw [5] (fun iv wr => ∃ k : Nat, iv = .int .i64 k ∧ k ≤ ls.length ∧ Hid (Mod (fun _ => False) w0 wr)) (fun iv _ => ls.length - (intOf iv).toNat)
  case atStart => exact ⟨0, rfl, Nat.zero_le _, HM1⟩
  case round =>
    obtain ⟨k, rfl, hk, hM⟩ := hrel
    have t1 := hM.out.cell HQ1.out id
    have t2 := hM.out.cell HQ2.out id
    clear HM1
    by_cases hlt : k < ls.length
    · obtain ⟨sk1, hx1, hmem1⟩ := xs_get HX1.out hlt
      obtain ⟨sk2, hx2, hmem2⟩ := xs_get HX2.out hlt
      obtain ⟨b1, o1, rfl, x0, x1, x2, x3, x4, x5, x6, x7⟩ := rd_cell8 (HR1.out.mod (HM0.out.trans hM.out) (fun _ _ => id)) hx1
      obtain ⟨b2, o2, rfl, y0, y1, y2, y3, y4, y5, y6, y7⟩ := rd_cell8 (HR2.out.mod (HM0.out.trans hM.out) (fun _ _ => id)) hx2
      have htn := HN3.out _ (List.getElem_mem hlt)
      have HTS1 := Lib.hid (HXT1.out _ hmem1)
      have HTS2 := Lib.hid (HXT2.out _ hmem2)
      obtain ⟨sa1, sc1, hsk1, _⟩ := HXT1.out _ hmem1
      obtain ⟨sa2, sc2, hsk2, _⟩ := HXT2.out _ hmem2
      simp only at hsk1 hsk2
      subst hsk1 hsk2
      clear hx1 hx2 hmem1 hmem2
      generalize ls[k] = t at *
      obtain ⟨lk, ⟨lp, lts⟩, lo, ⟨ll1, ll2⟩, ⟨lr1, lr2⟩⟩ := t
      simp only at *
      go_wp2_with fail
      go_cut [6, 7] (fun s6 s7 wx => ∃ gx gy : Nat, s6 = .pointer (some ⟨gx, 0, none⟩) ∧ s7 = .pointer (some ⟨gy, 0, none⟩) ∧ Hid (wx.heap[gx]? = some (.cells #[.int .i64 lk, .string lp, .slice sa1 lts.length sc1, .int .i64 lo, .int .i64 ll1, .string ll2, .int .i64 lr1, .string lr2] 44 (0, 0))) ∧ Hid (wx.heap[gy]? = some (.cells #[.int .i64 lk, .string lp, .slice sa2 lts.length sc2, .int .i64 lo, .int .i64 ll1, .string ll2, .int .i64 lr1, .string lr2] 44 (0, 0))) ∧ Hid (Mod (fun _ => False) wr wx))
      case first =>
        go_region_held3 (fun w' => (w'.cell? ⟨w.heap.size, 2, none⟩ = some (.slice (some ⟨b1, o1, none⟩) ls.length k1) ∧ w'.cell? ⟨w.heap.size + 1, 2, none⟩ = some (.slice (some ⟨b2, o2, none⟩) ls.length k2)) ∧ (w'.cell? ⟨b1, o1 + k * 8, none⟩ = some (.int .i64 lk) ∧ w'.cell? ⟨b1, o1 + k * 8 + 1, none⟩ = some (.string lp) ∧ w'.cell? ⟨b1, o1 + k * 8 + 2, none⟩ = some (.slice sa1 lts.length sc1) ∧ w'.cell? ⟨b1, o1 + k * 8 + 3, none⟩ = some (.int .i64 lo) ∧ w'.cell? ⟨b1, o1 + k * 8 + 4, none⟩ = some (.int .i64 ll1) ∧ w'.cell? ⟨b1, o1 + k * 8 + 5, none⟩ = some (.string ll2) ∧ w'.cell? ⟨b1, o1 + k * 8 + 6, none⟩ = some (.int .i64 lr1) ∧ w'.cell? ⟨b1, o1 + k * 8 + 7, none⟩ = some (.string lr2)) ∧ (w'.cell? ⟨b2, o2 + k * 8, none⟩ = some (.int .i64 lk) ∧ w'.cell? ⟨b2, o2 + k * 8 + 1, none⟩ = some (.string lp) ∧ w'.cell? ⟨b2, o2 + k * 8 + 2, none⟩ = some (.slice sa2 lts.length sc2) ∧ w'.cell? ⟨b2, o2 + k * 8 + 3, none⟩ = some (.int .i64 lo) ∧ w'.cell? ⟨b2, o2 + k * 8 + 4, none⟩ = some (.int .i64 ll1) ∧ w'.cell? ⟨b2, o2 + k * 8 + 5, none⟩ = some (.string ll2) ∧ w'.cell? ⟨b2, o2 + k * 8 + 6, none⟩ = some (.int .i64 lr1) ∧ w'.cell? ⟨b2, o2 + k * 8 + 7, none⟩ = some (.string lr2))) (go_keep) (fail)
        all_goals (go_wp2_with fail; go_meet)
        case rel => exact ⟨_, _, rfl, rfl, Lib.hid (heap_two1 _ _ _), Lib.hid (heap_two2 _ _ _), Lib.hid (((Mod.refl _ wr).alloc _).alloc _).drew⟩
        case rel => exact ⟨_, _, rfl, rfl, Lib.hid (heap_two2 _ _ _), Lib.hid (heap_two1 _ _ _), Lib.hid (((Mod.refl _ wr).alloc _).alloc _).drew⟩
      case rest =>
        obtain ⟨gx, gy, rfl, rfl, hgx, hgy, hMx⟩ := hcut
        have HMx := Lib.hid ((hM.out).trans hMx.out)
        have hq1 := tm_same ll1 ll2
        have hq2 := tm_same lr1 lr2
        have HA := Lib.hid (SameAtom_true lp lts _ _ wc (HTS1.out.mod0 (HM0.out.trans HMx.out)) (HTS2.out.mod0 (HM0.out.trans HMx.out)) htn)
        clear x0 x1 x2 x3 x4 x5 x6 x7 y0 y1 y2 y3 y4 y5 y6 y7 t1 t2
        have x0 := cell_at (j := 0) hgx.out rfl
        have x1 := cell_at (j := 1) hgx.out rfl
        have x2 := cell_at (j := 2) hgx.out rfl
        have x3 := cell_at (j := 3) hgx.out rfl
        have x4 := cell_at (j := 4) hgx.out rfl
        have x5 := cell_at (j := 5) hgx.out rfl
        have x6 := cell_at (j := 6) hgx.out rfl
        have x7 := cell_at (j := 7) hgx.out rfl
        have y0 := cell_at (j := 0) hgy.out rfl
        have y1 := cell_at (j := 1) hgy.out rfl
        have y2 := cell_at (j := 2) hgy.out rfl
        have y3 := cell_at (j := 3) hgy.out rfl
        have y4 := cell_at (j := 4) hgy.out rfl
        have y5 := cell_at (j := 5) hgy.out rfl
        have y6 := cell_at (j := 6) hgy.out rfl
        have y7 := cell_at (j := 7) hgy.out rfl
        go_wp2_with fail
        refine HA.out.mono ?_
        rintro e w2 ⟨rfl, hM2⟩
        have HM2 := Lib.hid (HMx.out.trans hM2); clear hM2 HA
        go_wp2_with fail
        go_roundw
        case rel => exact ⟨k + 1, by go_num, hlt, HM2⟩
        case measure => simp [intOf]; omega
    · obtain rfl : k = ls.length := by omega
      go_wp2_with fail
      go_ret
      exact ⟨rfl, HM0.out.trans hM.out⟩
end Go.Proofs.YtphgglnkdfndiaaDoor
