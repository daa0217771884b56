/-
  Are two programs the same (law 11)? Walked where they are.
-/
import Derived.Test.YteecbbnpgmceiaaGreatDoorSame
import Derived.Test.YteecbbnpgmceiaaGreatDoorLawA
import Derived.Test.YteecbbnpgmceiaaGreatDoorSafeG
namespace Go.Proofs.YteecbbnpgmceiaaGreatDoor.L11
open Go Go.RowKit Go.Mine
set_option linter.unusedVariables false
set_option maxHeartbeats 4000000
set_option maxRecDepth 100000

theorem num_any (n : Int) (w : World) : Calls Tryz.prog 27 #[.int .i64 n] w fun e w' => e = .returned (.int .i64 n) ∧ w = w' := by
  go_enter Tryz.func27, Tryz.ntmps27
  go_wp2
  go_ret
  exact ⟨rfl, rfl⟩
theorem terms_true (ts : List Tm) (s1 s2 : Value) (w : World) (h1 : TsAt w s1 ts) (h2 : TsAt w s2 ts) (hn : ts.length < 2 ^ 30) :
    Calls Tryz.prog 193 #[s1, s2] w fun e w' => e = .returned (.bool true) ∧ Mod (fun _ => False) w w' := by
  obtain ⟨a1, c1, rfl, hr1⟩ := h1
  obtain ⟨a2, c2, rfl, hr2⟩ := h2
  have HR1 := Lib.hid hr1; have HR2 := Lib.hid hr2
  clear hr1 hr2
  go_enter Tryz.func193, Tryz.ntmps193
  go_wp2_with fail
  go_loopw [5] (fun iv wr => ∃ k : Nat, iv = .int .i64 k ∧ k ≤ ts.length ∧ Hid (Mod (fun _ => False) w wr)) (fun iv _ => ts.length - (intOf iv).toNat)
  case atStart => exact ⟨0, rfl, Nat.zero_le _, Lib.hid (Mod.refl _ w)⟩
  case round =>
    obtain ⟨k, rfl, hk, hM⟩ := hrel
    by_cases hlt : k < ts.length
    · obtain ⟨b1, o1, rfl, x0, x1⟩ := rd_cell2 (HR1.out.mod hM.out (fun _ _ => id)) hlt
      obtain ⟨b2, o2, rfl, y0, y1⟩ := rd_cell2 (HR2.out.mod hM.out (fun _ _ => id)) hlt
      have hq := tm_same ts[k].kind ts[k].text
      generalize ts[k].kind = tk at *
      generalize ts[k].text = tx at *
      go_wp2_with fail
      refine wp_region_ord (fun w' => (w'.cell? ⟨b1, o1 + k * 2, none⟩ = some (.int .i64 tk) ∧ w'.cell? ⟨b1, o1 + k * 2 + 1, none⟩ = some (.string tx)) ∧ (w'.cell? ⟨b2, o2 + k * 2, none⟩ = some (.int .i64 tk) ∧ w'.cell? ⟨b2, o2 + k * 2 + 1, none⟩ = some (.string tx))) [(0, 0), (0, 1), (0, 2), (1, 3), (0, 4), (0, 5), (0, 6), (1, 7), (0, 8)] (by kernel_rfl) (by kernel_rfl) ?_
      go_wp2_with (first
        | (refine ord_pure rfl rfl rfl (fun K hK => ?_); go_big_quiet_op; refine hK _ ?_; clear hK K)
                                                                | (refine ord_skip rfl rfl ?_; simp only [Act.put, List.setIfInBounds_toArray, List.set_cons_zero, List.set_cons_succ])
                                                                | (refine ord_held rfl rfl rfl (⟨⟨by simpa using x0, by simpa using x1⟩, ⟨by simpa using y0, by simpa using y1⟩⟩) (fun K hK => ?_); apply Exists.intro; refine ⟨fun w' hs => ?_, hK _ ?_⟩; (revert hs; dsimp only; (try simp only [and_imp]); intros; go_simp; rfl); clear hK K)
                                                                | (refine ord_keep rfl rfl (⟨⟨by simpa using x0, by simpa using x1⟩, ⟨by simpa using y0, by simpa using y1⟩⟩) (fun K hK => ?_))
                                                                | (refine ord_drop rfl rfl (fun K hK => ?_))
                                                                | (refine ord_nil ?_))
      go_roundw
      case rel => exact ⟨k + 1, by go_num, hlt, Lib.hid hM.out.drew⟩
      case measure => simp [intOf]; omega
    · obtain rfl : k = ts.length := by omega
      go_wp2_with fail
      go_ret
      exact ⟨rfl, hM.out⟩
theorem atom_true (p : ByteArray) (ts : List Tm) (s1 s2 : Value) (w : World) (h1 : TsAt w s1 ts) (h2 : TsAt w s2 ts) (hn : ts.length < 2 ^ 30) :
    Calls Tryz.prog 163 #[.agg #[.string p, s1], .agg #[.string p, s2]] w fun e w' => e = .returned (.bool true) ∧ Mod (fun _ => False) w w' := by
  have hm0 : Mod (fun _ => False) w ((w.alloc (.cells #[.string p, s1] 43)).alloc (.cells #[.string p, s2] 43)) := ((Mod.refl _ w).alloc _).alloc _
  have HT := Lib.hid (terms_true ts s1 s2 _ (h1.mod0 hm0) (h2.mod0 hm0) hn)
  obtain ⟨hb1, hb2⟩ := two_new w (.cells #[.string p, s1] 43) (.cells #[.string p, s2] 43)
  have c0 := cell_at (j := 0) hb1 rfl
  have c1 := cell_at (j := 1) hb1 rfl
  have d0 := cell_at (j := 0) hb2 rfl
  have d1 := cell_at (j := 1) hb2 rfl
  obtain ⟨a1, k1, rfl, _⟩ := h1
  obtain ⟨a2, k2, rfl, _⟩ := h2
  have HM0 := Lib.hid hm0
  clear hb1 hb2 hm0
  go_enter Tryz.func163, Tryz.ntmps163
  go_wp2_with fail
  refine HT.out.mono ?_
  rintro e w1 ⟨rfl, hM1⟩
  have HM1 := Lib.hid (HM0.out.trans hM1)
  clear hM1
  go_wp2_with fail
  go_ret
  exact ⟨rfl, HM1.out⟩
theorem rule_true (r : Rm) (s1 s2 b1 b2 : Value) (w : World) (h1 : TsAt w s1 r.head.terms) (h2 : TsAt w s2 r.head.terms) (g1 : LsAt w b1 r.body) (g2 : LsAt w b2 r.body)
    (hn1 : r.head.terms.length < 2 ^ 30) (hn2 : r.body.length < 2 ^ 30) (hn3 : ∀ l ∈ r.body, l.atom.terms.length < 2 ^ 30) :
    Calls Tryz.prog 127 #[rmV r s1 b1, rmV r s2 b2] w fun e w' => e = .returned (.bool true) ∧ Mod (fun _ => False) w w' := by
  obtain ⟨⟨pr, hts⟩, ls⟩ := r
  unfold rmV
  simp only at *
  have HT1 := Lib.hid h1; have HT2 := Lib.hid h2
  obtain ⟨a1, c1, rfl, _⟩ := h1
  obtain ⟨a2, c2, rfl, _⟩ := h2
  obtain ⟨d1, k1, xs1, rfl, hx1, hr1, ht1⟩ := g1
  obtain ⟨d2, k2, xs2, rfl, hx2, hr2, ht2⟩ := g2
  have HX1 := Lib.hid hx1; have HR1 := Lib.hid hr1; have HXT1 := Lib.hid ht1
  have HX2 := Lib.hid hx2; have HR2 := Lib.hid hr2; have HXT2 := Lib.hid ht2
  have HN3 := Lib.hid hn3
  clear hx1 hr1 ht1 hx2 hr2 ht2 hn3
  have hm0 : Mod (fun _ => False) w ((w.alloc (.cells #[.string pr, .slice a1 hts.length c1, .slice d1 ls.length k1] 46)).alloc (.cells #[.string pr, .slice a2 hts.length c2, .slice d2 ls.length k2] 46)) := ((Mod.refl _ w).alloc _).alloc _
  have q1 : ((w.alloc (.cells #[.string pr, .slice a1 hts.length c1, .slice d1 ls.length k1] 46)).alloc (.cells #[.string pr, .slice a2 hts.length c2, .slice d2 ls.length k2] 46)).cell? ⟨w.heap.size, 2, none⟩ = some (.slice d1 ls.length k1) := cell_old (cell_new rfl)
  have q2 : ((w.alloc (.cells #[.string pr, .slice a1 hts.length c1, .slice d1 ls.length k1] 46)).alloc (.cells #[.string pr, .slice a2 hts.length c2, .slice d2 ls.length k2] 46)).cell? ⟨w.heap.size + 1, 2, none⟩ = some (.slice d2 ls.length k2) := cell_new rfl (by simp)
  have HA := Lib.hid (atom_true pr hts _ _ _ (HT1.out.mod0 hm0) (HT2.out.mod0 hm0) hn1)
  obtain ⟨w0, hw0⟩ : ∃ w0, w0 = ((w.alloc (.cells #[.string pr, .slice a1 hts.length c1, .slice d1 ls.length k1] 46)).alloc (.cells #[.string pr, .slice a2 hts.length c2, .slice d2 ls.length k2] 46)) := ⟨_, rfl⟩
  have HMW : Hid (∀ w1, Mod (fun _ => False) ((w.alloc (.cells #[.string pr, .slice a1 hts.length c1, .slice d1 ls.length k1] 46)).alloc (.cells #[.string pr, .slice a2 hts.length c2, .slice d2 ls.length k2] 46)) w1 → Mod (fun _ => False) w0 w1) := by rw [hw0]; exact fun _ h => h
  have HM0 : Hid (Mod (fun _ => False) w w0) := by rw [hw0]; exact hm0
  have HQ1 : Hid (w0.cell? ⟨w.heap.size, 2, none⟩ = some (.slice d1 ls.length k1)) := by rw [hw0]; exact q1
  have HQ2 : Hid (w0.cell? ⟨w.heap.size + 1, 2, none⟩ = some (.slice d2 ls.length k2)) := by rw [hw0]; exact q2
  clear hm0 q1 q2 hw0
  go_enter Tryz.func127, Tryz.ntmps127
  go_wp2_with fail
  refine HA.out.mono ?_
  rintro e w1 ⟨rfl, hM1⟩
  have HM1 := Lib.hid (HMW.out _ hM1)
  have t1 := HM1.out.cell HQ1.out id
  have t2 := HM1.out.cell HQ2.out id
  clear hM1 HMW HA
  go_wp2_with fail
  go_loopw [5] (fun iv wr => ∃ k : Nat, iv = .int .i64 k ∧ k ≤ ls.length ∧ Hid (Mod (fun _ => False) w0 wr)) (fun iv _ => ls.length - (intOf iv).toNat)
  case atStart => exact ⟨0, rfl, Nat.zero_le _, HM1⟩
  case round =>
    obtain ⟨k, rfl, hk, hM⟩ := hrel
    have t1 := hM.out.cell HQ1.out id
    have t2 := hM.out.cell HQ2.out id
    clear HM1
    by_cases hlt : k < ls.length
    · obtain ⟨sk1, hx1, hmem1⟩ := xs_get HX1.out hlt
      obtain ⟨sk2, hx2, hmem2⟩ := xs_get HX2.out hlt
      obtain ⟨b1, o1, rfl, x0, x1, x2, x3, x4, x5, x6, x7⟩ := rd_cell8 (HR1.out.mod (HM0.out.trans hM.out) (fun _ _ => id)) hx1
      obtain ⟨b2, o2, rfl, y0, y1, y2, y3, y4, y5, y6, y7⟩ := rd_cell8 (HR2.out.mod (HM0.out.trans hM.out) (fun _ _ => id)) hx2
      have htn := HN3.out _ (List.getElem_mem hlt)
      have HTS1 := Lib.hid (HXT1.out _ hmem1)
      have HTS2 := Lib.hid (HXT2.out _ hmem2)
      obtain ⟨sa1, sc1, hsk1, _⟩ := HXT1.out _ hmem1
      obtain ⟨sa2, sc2, hsk2, _⟩ := HXT2.out _ hmem2
      simp only at hsk1 hsk2
      subst hsk1 hsk2
      clear hx1 hx2 hmem1 hmem2
      generalize ls[k] = t at *
      obtain ⟨lk, ⟨lp, lts⟩, lo, ⟨ll1, ll2⟩, ⟨lr1, lr2⟩⟩ := t
      simp only at *
      have hx4 : Mod (fun _ => False) wr (wr.alloc (.cells #[.int .i64 lk, .string lp, .slice sa1 lts.length sc1, .int .i64 lo, .int .i64 ll1, .string ll2, .int .i64 lr1, .string lr2] 102)) := (Mod.refl _ wr).alloc _
      have u2 := hx4.cell t2 id
      have u0 := hx4.cell y0 id; have u1 := hx4.cell y1 id; have u3 := hx4.cell y2 id; have u4 := hx4.cell y3 id
      have u5 := hx4.cell y4 id; have u6 := hx4.cell y5 id; have u7 := hx4.cell y6 id; have u8 := hx4.cell y7 id
      obtain ⟨hgx, hgy⟩ := two_new wr (.cells #[.int .i64 lk, .string lp, .slice sa1 lts.length sc1, .int .i64 lo, .int .i64 ll1, .string ll2, .int .i64 lr1, .string lr2] 102) (.cells #[.int .i64 lk, .string lp, .slice sa2 lts.length sc2, .int .i64 lo, .int .i64 ll1, .string ll2, .int .i64 lr1, .string lr2] 102)
      have hMx : Mod (fun _ => False) wr ((wr.alloc (.cells #[.int .i64 lk, .string lp, .slice sa1 lts.length sc1, .int .i64 lo, .int .i64 ll1, .string ll2, .int .i64 lr1, .string lr2] 102)).alloc (.cells #[.int .i64 lk, .string lp, .slice sa2 lts.length sc2, .int .i64 lo, .int .i64 ll1, .string ll2, .int .i64 lr1, .string lr2] 102)) := ((Mod.refl _ wr).alloc _).alloc _
      have z0 := cell_at (j := 0) hgx rfl; have z1 := cell_at (j := 1) hgx rfl; have z2 := cell_at (j := 2) hgx rfl; have z3 := cell_at (j := 3) hgx rfl
      have z4 := cell_at (j := 4) hgx rfl; have z5 := cell_at (j := 5) hgx rfl; have z6 := cell_at (j := 6) hgx rfl; have z7 := cell_at (j := 7) hgx rfl
      have v0 := cell_at (j := 0) hgy rfl; have v1 := cell_at (j := 1) hgy rfl; have v2 := cell_at (j := 2) hgy rfl; have v3 := cell_at (j := 3) hgy rfl
      have v4 := cell_at (j := 4) hgy rfl; have v5 := cell_at (j := 5) hgy rfl; have v6 := cell_at (j := 6) hgy rfl; have v7 := cell_at (j := 7) hgy rfl
      have HMx := Lib.hid ((hM.out).trans hMx)
      have hq1 := tm_same ll1 ll2
      have hq2 := tm_same lr1 lr2
      have HA := Lib.hid (atom_true lp lts _ _ _ (HTS1.out.mod0 (HM0.out.trans HMx.out)) (HTS2.out.mod0 (HM0.out.trans HMx.out)) htn)
      clear hgx hgy hMx hx4
      go_wp2_with fail
      clear z0 z1 z2 z3 z4 z5 z6 z7 v0 v1 v2 v3 v4 v5 v6 v7 u0 u1 u2 u3 u4 u5 u6 u7 u8 x0 x1 x2 x3 x4 x5 x6 x7 y0 y1 y2 y3 y4 y5 y6 y7
      refine HA.out.mono ?_
      rintro e w2 ⟨rfl, hM2⟩
      have HM2 := Lib.hid (HMx.out.trans hM2); clear hM2 HA
      go_wp2_with fail
      go_roundw
      case rel => exact ⟨k + 1, by go_num, hlt, HM2⟩
      case measure => simp [intOf]; omega
    · obtain rfl : k = ls.length := by omega
      go_wp2_with fail
      go_ret
      exact ⟨rfl, HM0.out.trans hM.out⟩
theorem program_true (rs : List Rm) (s1 s2 : Value) (w : World) (g1 : RsAt w s1 rs) (g2 : RsAt w s2 rs) (hn : rs.length < 2 ^ 30) (hs : ∀ r ∈ rs, SmR r) :
    Calls Tryz.prog 74 #[.agg #[s1], .agg #[s2]] w fun e w' => e = .returned (.bool true) ∧ Mod (fun _ => False) w w' := by
  obtain ⟨d1, k1, xs1, rfl, hx1, hr1, ht1⟩ := g1
  obtain ⟨d2, k2, xs2, rfl, hx2, hr2, ht2⟩ := g2
  have HX1 := Lib.hid hx1; have HR1 := Lib.hid hr1; have HXT1 := Lib.hid ht1
  have HX2 := Lib.hid hx2; have HR2 := Lib.hid hr2; have HXT2 := Lib.hid ht2
  have HS := Lib.hid hs
  clear hx1 hr1 ht1 hx2 hr2 ht2 hs
  have hm0 : Mod (fun _ => False) w ((w.alloc (.cells #[.slice d1 rs.length k1] 24)).alloc (.cells #[.slice d2 rs.length k2] 24)) := ((Mod.refl _ w).alloc _).alloc _
  have q1 : ((w.alloc (.cells #[.slice d1 rs.length k1] 24)).alloc (.cells #[.slice d2 rs.length k2] 24)).cell? ⟨w.heap.size, 0, none⟩ = some (.slice d1 rs.length k1) := cell_old (cell_new rfl)
  have q2 : ((w.alloc (.cells #[.slice d1 rs.length k1] 24)).alloc (.cells #[.slice d2 rs.length k2] 24)).cell? ⟨w.heap.size + 1, 0, none⟩ = some (.slice d2 rs.length k2) := cell_new rfl (by simp)
  go_enter Tryz.func74, Tryz.ntmps74
  go_wp2_with fail
  generalize ((w.alloc (.cells #[.slice d1 rs.length k1] 24)).alloc (.cells #[.slice d2 rs.length k2] 24)) = w0 at *
  have HM0 := Lib.hid hm0; have HQ1 := Lib.hid q1; have HQ2 := Lib.hid q2
  clear hm0 q1 q2
  go_loopw [5] (fun iv wr => ∃ k : Nat, iv = .int .i64 k ∧ k ≤ rs.length ∧ Hid (Mod (fun _ => False) w0 wr)) (fun iv _ => rs.length - (intOf iv).toNat)
  case atStart => exact ⟨0, rfl, Nat.zero_le _, Lib.hid (Mod.refl _ w0)⟩
  case round =>
    obtain ⟨k, rfl, hk, hM⟩ := hrel
    have t1 := hM.out.cell HQ1.out id
    have t2 := hM.out.cell HQ2.out id
    by_cases hlt : k < rs.length
    · obtain ⟨⟨sk1, bk1⟩, hx1, hmem1⟩ := xs_get HX1.out hlt
      obtain ⟨⟨sk2, bk2⟩, hx2, hmem2⟩ := xs_get HX2.out hlt
      obtain ⟨b1, o1, rfl, x0, x1, x2⟩ := rd_cellR (HR1.out.mod (HM0.out.trans hM.out) (fun _ _ => id)) hx1
      obtain ⟨b2, o2, rfl, y0, y1, y2⟩ := rd_cellR (HR2.out.mod (HM0.out.trans hM.out) (fun _ _ => id)) hx2
      have htn := HS.out _ (List.getElem_mem hlt)
      have HLT := Lib.hid (fun W (m : Mod (fun _ => False) wr W) => rule_true rs[k] sk1 sk2 bk1 bk2 W ((HXT1.out _ hmem1).1.mod0 ((HM0.out.trans hM.out).trans m)) ((HXT2.out _ hmem2).1.mod0 ((HM0.out.trans hM.out).trans m)) ((HXT1.out _ hmem1).2.mod0 ((HM0.out.trans hM.out).trans m)) ((HXT2.out _ hmem2).2.mod0 ((HM0.out.trans hM.out).trans m)) htn.1 htn.2.1 htn.2.2)
      obtain ⟨⟨sa1, sc1, hsk1, _⟩, ⟨ba1, bc1, ys1, hbk1, _⟩⟩ := HXT1.out _ hmem1
      obtain ⟨⟨sa2, sc2, hsk2, _⟩, ⟨ba2, bc2, ys2, hbk2, _⟩⟩ := HXT2.out _ hmem2
      simp only at hsk1 hsk2 hbk1 hbk2
      subst hsk1 hsk2 hbk1 hbk2
      clear hx1 hx2 hmem1 hmem2 htn
      generalize rs[k] = t at *
      obtain ⟨⟨p, ts⟩, ls⟩ := t
      simp only at *
      unfold rmV at HLT
      go_wp2_with fail
      refine wp_region_ord (fun w' => (w'.cell? ⟨w.heap.size, 0, none⟩ = some (.slice (some ⟨b1, o1, none⟩) rs.length k1) ∧ w'.cell? ⟨w.heap.size + 1, 0, none⟩ = some (.slice (some ⟨b2, o2, none⟩) rs.length k2)) ∧ (w'.cell? ⟨b1, o1 + k * 3, none⟩ = some (.string p) ∧ w'.cell? ⟨b1, o1 + k * 3 + 1, none⟩ = some (.slice sa1 ts.length sc1) ∧ w'.cell? ⟨b1, o1 + k * 3 + 2, none⟩ = some (.slice ba1 ls.length bc1)) ∧ (w'.cell? ⟨b2, o2 + k * 3, none⟩ = some (.string p) ∧ w'.cell? ⟨b2, o2 + k * 3 + 1, none⟩ = some (.slice sa2 ts.length sc2) ∧ w'.cell? ⟨b2, o2 + k * 3 + 2, none⟩ = some (.slice ba2 ls.length bc2))) [(0, 0), (1, 1), (0, 2), (0, 3), (1, 4), (0, 5), (1, 6), (0, 7), (0, 8), (1, 9), (3, 10), (0, 11)] (by kernel_rfl) (by kernel_rfl) ?_
      go_wp2_with (first
        | (refine ord_pure rfl rfl rfl (fun K hK => ?_); go_big_quiet_op; refine hK _ ?_; clear hK K)
                        | (refine ord_skip rfl rfl ?_; simp only [Act.put, List.setIfInBounds_toArray, List.set_cons_zero, List.set_cons_succ])
                        | (refine ord_held rfl rfl rfl (⟨⟨by simpa using t1, by simpa using t2⟩, ⟨by simpa using x0, by simpa using x1, by simpa using x2⟩, ⟨by simpa using y0, by simpa using y1, by simpa using y2⟩⟩) (fun K hK => ?_); apply Exists.intro; refine ⟨fun w' hs => ?_, hK _ ?_⟩; (revert hs; dsimp only; (try simp only [and_imp]); intros; go_simp; rfl); clear hK K)
                        | (refine ord_keep rfl rfl (⟨⟨by simpa using t1, by simpa using t2⟩, ⟨by simpa using x0, by simpa using x1, by simpa using x2⟩, ⟨by simpa using y0, by simpa using y1, by simpa using y2⟩⟩) (fun K hK => ?_))
                        | (refine ord_drop rfl rfl (fun K hK => ?_))
                        | (refine ord_nil ?_))
      refine (HLT.out _ ((Mod.refl _ wr).drew)).mono ?_
      rintro e w2 ⟨rfl, hM2⟩
      have HM2 := Lib.hid (hM.out.drew.trans hM2); clear hM2 HLT t1 t2 x0 x1 x2 y0 y1 y2
      go_wp2_with (first
        | (refine ord_pure rfl rfl rfl (fun K hK => ?_); go_big_quiet_op; refine hK _ ?_; clear hK K)
                        | (refine ord_skip rfl rfl ?_; simp only [Act.put, List.setIfInBounds_toArray, List.set_cons_zero, List.set_cons_succ])
                        | (refine ord_held rfl rfl rfl (trivial) (fun K hK => ?_); apply Exists.intro; refine ⟨fun w' hs => ?_, hK _ ?_⟩; (revert hs; dsimp only; (try simp only [and_imp]); intros; go_simp; rfl); clear hK K)
                        | (refine ord_keep rfl rfl (trivial) (fun K hK => ?_))
                        | (refine ord_drop rfl rfl (fun K hK => ?_))
                        | (refine ord_nil ?_))
      go_roundw
      case rel => exact ⟨k + 1, by go_num, hlt, HM2⟩
      case measure => simp [intOf]; omega
    · obtain rfl : k = rs.length := by omega
      go_wp2_with fail
      go_ret
      exact ⟨rfl, HM0.out.trans hM.out⟩
end Go.Proofs.YteecbbnpgmceiaaGreatDoor.L11
