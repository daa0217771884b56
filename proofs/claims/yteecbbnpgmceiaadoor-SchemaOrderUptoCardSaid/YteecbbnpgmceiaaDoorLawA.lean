/-
  What the laws of syntax use: bytes lent and kept, atoms, literals, rules, programs compared.
-/
import Derived.Test.YteecbbnpgmceiaaDoorRefMayG
namespace Go.Proofs.YteecbbnpgmceiaaDoor
open Go Go.RowKit Go.Mine
set_option linter.unusedVariables false
set_option maxHeartbeats 1000000
set_option maxRecDepth 100000

theorem tm_same8 (a : Int) (s : ByteArray) (w : World) : (binOp .neq 72 (.agg #[.int .i64 a, .string s]) (.agg #[.int .i64 a, .string s])).run Tryd.prog w = .ok (.bool false) w := by
  rw [tm_neql]; simp
theorem tm_sameE (a : Int) (s : ByteArray) (w : World) : (binOp .eql 72 (.agg #[.int .i64 a, .string s]) (.agg #[.int .i64 a, .string s])).run Tryd.prog w = .ok (.bool true) w := by
  rw [tm_eql]; simp
theorem law8Num_any (n : Int) (w : World) : Calls Tryd.prog 43 #[.int .i64 n] w fun e w' => e = .returned (.int .i64 n) ∧ w = w' := by
  go_enter Tryd.func43, Tryd.ntmps43
  go_wp2
  go_ret
  exact ⟨rfl, rfl⟩
theorem law8Atom_true (p : ByteArray) (ts : List Tm) (s1 s2 : Value) (w : World) (h1 : TsAt w s1 ts) (h2 : TsAt w s2 ts) (hn : ts.length < 2 ^ 30) :
    Calls Tryd.prog 15 #[.agg #[.string p, s1], .agg #[.string p, s2]] w fun e w' => e = .returned (.bool true) ∧ Mod (fun _ => False) w w' := by
  obtain ⟨a1, c1, rfl, hr1⟩ := h1
  obtain ⟨a2, c2, rfl, hr2⟩ := h2
  have hm0 : Mod (fun _ => False) w ((w.alloc (.cells #[.string p, .slice a1 ts.length c1] 39)).alloc (.cells #[.string p, .slice a2 ts.length c2] 39)) := ((Mod.refl _ w).alloc _).alloc _
  have d1 : ((w.alloc (.cells #[.string p, .slice a1 ts.length c1] 39)).alloc (.cells #[.string p, .slice a2 ts.length c2] 39)).cell? ⟨w.heap.size, 1, none⟩ = some (.slice a1 ts.length c1) := cell_old (cell_new rfl)
  have d2 : ((w.alloc (.cells #[.string p, .slice a1 ts.length c1] 39)).alloc (.cells #[.string p, .slice a2 ts.length c2] 39)).cell? ⟨w.heap.size + 1, 1, none⟩ = some (.slice a2 ts.length c2) := cell_new rfl (by simp)
  have HR1 := Lib.hid hr1; have HR2 := Lib.hid hr2
  clear hr1 hr2
  go_enter Tryd.func15, Tryd.ntmps15
  go_wp2_with fail
  generalize ((w.alloc (.cells #[.string p, .slice a1 ts.length c1] 39)).alloc (.cells #[.string p, .slice a2 ts.length c2] 39)) = w0 at *
  have HM0 := Lib.hid hm0; have HD1 := Lib.hid d1; have HD2 := Lib.hid d2
  clear hm0 d1 d2
  go_loopw [5] (fun iv wr => ∃ k : Nat, iv = .int .i64 k ∧ k ≤ ts.length ∧ Hid (Mod (fun _ => False) w0 wr)) (fun iv _ => ts.length - (intOf iv).toNat)
  case atStart => exact ⟨0, rfl, Nat.zero_le _, Lib.hid (Mod.refl _ w0)⟩
  case round =>
    obtain ⟨k, rfl, hk, hM⟩ := hrel
    have e1 := hM.out.cell HD1.out id
    have e2 := hM.out.cell HD2.out id
    by_cases hlt : k < ts.length
    · obtain ⟨b1, o1, rfl, x0, x1⟩ := rd_cell2 (HR1.out.mod (HM0.out.trans hM.out) (fun _ _ => id)) hlt
      obtain ⟨b2, o2, rfl, y0, y1⟩ := rd_cell2 (HR2.out.mod (HM0.out.trans hM.out) (fun _ _ => id)) hlt
      have hq := tm_same8 ts[k].kind ts[k].text
      generalize ts[k].kind = tk at *
      generalize ts[k].text = tx at *
      go_wp2_with fail
      refine wp_region_ord (fun w' => (w'.cell? ⟨w.heap.size, 1, none⟩ = some (.slice (some ⟨b1, o1, none⟩) ts.length c1) ∧ w'.cell? ⟨w.heap.size + 1, 1, none⟩ = some (.slice (some ⟨b2, o2, none⟩) ts.length c2)) ∧ (w'.cell? ⟨b1, o1 + k * 2, none⟩ = some (.int .i64 tk) ∧ w'.cell? ⟨b1, o1 + k * 2 + 1, none⟩ = some (.string tx)) ∧ (w'.cell? ⟨b2, o2 + k * 2, none⟩ = some (.int .i64 tk) ∧ w'.cell? ⟨b2, o2 + k * 2 + 1, none⟩ = some (.string tx))) [(0, 0), (1, 1), (0, 2), (0, 3), (1, 4), (0, 5), (1, 6), (0, 7), (0, 8), (1, 9), (0, 10)] (by kernel_rfl) (by kernel_rfl) ?_
      go_wp2_with (first
        | (refine ord_pure rfl rfl rfl (fun K hK => ?_); go_big_quiet_op; refine hK _ ?_; clear hK K)
                        | (refine ord_skip rfl rfl ?_; simp only [Act.put, List.setIfInBounds_toArray, List.set_cons_zero, List.set_cons_succ])
                        | (refine ord_held rfl rfl rfl (⟨⟨by simpa using e1, by simpa using e2⟩, ⟨by simpa using x0, by simpa using x1⟩, ⟨by simpa using y0, by simpa using y1⟩⟩) (fun K hK => ?_); apply Exists.intro; refine ⟨fun w' hs => ?_, hK _ ?_⟩; (revert hs; dsimp only; (try simp only [and_imp]); intros; go_simp; rfl); clear hK K)
                        | (refine ord_keep rfl rfl (⟨⟨by simpa using e1, by simpa using e2⟩, ⟨by simpa using x0, by simpa using x1⟩, ⟨by simpa using y0, by simpa using y1⟩⟩) (fun K hK => ?_))
                        | (refine ord_drop rfl rfl (fun K hK => ?_))
                        | (refine ord_nil ?_))
      go_roundw
      case rel => exact ⟨k + 1, by go_num, hlt, Lib.hid hM.out.drew⟩
      case measure => simp [intOf]; omega
    · obtain rfl : k = ts.length := by omega
      go_wp2_with fail
      go_ret
      exact ⟨rfl, HM0.out.trans hM.out⟩
theorem law8Lit_true (l : Lm) (s1 s2 : Value) (w : World) (h1 : TsAt w s1 l.atom.terms) (h2 : TsAt w s2 l.atom.terms) (hn : l.atom.terms.length < 2 ^ 30) :
    Calls Tryd.prog 52 #[lmV l s1, lmV l s2] w fun e w' => e = .returned (.bool true) ∧ Mod (fun _ => False) w w' := by
  obtain ⟨lk, ⟨lp, lts⟩, lo, ⟨ll1, ll2⟩, ⟨lr1, lr2⟩⟩ := l
  unfold lmV
  simp only at *
  have HT1 := Lib.hid h1; have HT2 := Lib.hid h2
  obtain ⟨a1, c1, rfl, _⟩ := h1
  obtain ⟨a2, c2, rfl, _⟩ := h2
  have hm0 : Mod (fun _ => False) w ((w.alloc (.cells #[.int .i64 lk, .string lp, .slice a1 lts.length c1, .int .i64 lo, .int .i64 ll1, .string ll2, .int .i64 lr1, .string lr2] 74)).alloc (.cells #[.int .i64 lk, .string lp, .slice a2 lts.length c2, .int .i64 lo, .int .i64 ll1, .string ll2, .int .i64 lr1, .string lr2] 74)) := ((Mod.refl _ w).alloc _).alloc _
  have hgx : ((w.alloc (.cells #[.int .i64 lk, .string lp, .slice a1 lts.length c1, .int .i64 lo, .int .i64 ll1, .string ll2, .int .i64 lr1, .string lr2] 74)).alloc (.cells #[.int .i64 lk, .string lp, .slice a2 lts.length c2, .int .i64 lo, .int .i64 ll1, .string ll2, .int .i64 lr1, .string lr2] 74)).heap[w.heap.size]? = some (.cells #[.int .i64 lk, .string lp, .slice a1 lts.length c1, .int .i64 lo, .int .i64 ll1, .string ll2, .int .i64 lr1, .string lr2] 74 (0, 0)) := ((Mod.refl (fun _ => False) _).alloc _).at (heap_alloc_new w _) id
  have hgy : ((w.alloc (.cells #[.int .i64 lk, .string lp, .slice a1 lts.length c1, .int .i64 lo, .int .i64 ll1, .string ll2, .int .i64 lr1, .string lr2] 74)).alloc (.cells #[.int .i64 lk, .string lp, .slice a2 lts.length c2, .int .i64 lo, .int .i64 ll1, .string ll2, .int .i64 lr1, .string lr2] 74)).heap[w.heap.size + 1]? = some (.cells #[.int .i64 lk, .string lp, .slice a2 lts.length c2, .int .i64 lo, .int .i64 ll1, .string ll2, .int .i64 lr1, .string lr2] 74 (0, 0)) := by
    have := heap_alloc_new (w.alloc (.cells #[.int .i64 lk, .string lp, .slice a1 lts.length c1, .int .i64 lo, .int .i64 ll1, .string ll2, .int .i64 lr1, .string lr2] 74)) (.cells #[.int .i64 lk, .string lp, .slice a2 lts.length c2, .int .i64 lo, .int .i64 ll1, .string ll2, .int .i64 lr1, .string lr2] 74)
    simpa using this
  have HA := Lib.hid (law8Atom_true lp lts _ _ _ (HT1.out.mod0 hm0) (HT2.out.mod0 hm0) hn)
  have HM0 := Lib.hid hm0; have HGX := Lib.hid hgx; have HGY := Lib.hid hgy
  have hq1 := tm_sameE ll1 ll2
  have hq2 := tm_sameE lr1 lr2
  clear hm0 hgx hgy HT1 HT2
  go_enter Tryd.func52, Tryd.ntmps52
  go_wp2_with fail
  refine HA.out.mono ?_
  rintro e w2 ⟨rfl, hM2⟩
  have hbx := hM2.at HGX.out id
  have hby := hM2.at HGY.out id
  have HM2 := Lib.hid (HM0.out.trans hM2)
  have x3 := cell_at (j := 3) hbx rfl
  have x4 := cell_at (j := 4) hbx rfl
  have x5 := cell_at (j := 5) hbx rfl
  have x6 := cell_at (j := 6) hbx rfl
  have x7 := cell_at (j := 7) hbx rfl
  have y3 := cell_at (j := 3) hby rfl
  have y4 := cell_at (j := 4) hby rfl
  have y5 := cell_at (j := 5) hby rfl
  have y6 := cell_at (j := 6) hby rfl
  have y7 := cell_at (j := 7) hby rfl
  clear hbx hby hM2 HA HGX HGY HM0
  go_wp2_with fail
  go_ret
  exact ⟨rfl, HM2.out⟩
/-- what a rule's slices hold -/
def SmR (r : Rm) : Prop := r.head.terms.length < 2 ^ 30 ∧ r.body.length < 2 ^ 30 ∧ ∀ l ∈ r.body, l.atom.terms.length < 2 ^ 30
theorem law8Rule_true (r : Rm) (s1 s2 b1 b2 : Value) (w : World) (h1 : TsAt w s1 r.head.terms) (h2 : TsAt w s2 r.head.terms) (g1 : LsAt w b1 r.body) (g2 : LsAt w b2 r.body) (hn : SmR r) :
    Calls Tryd.prog 14 #[rmV r s1 b1, rmV r s2 b2] w fun e w' => e = .returned (.bool true) ∧ Mod (fun _ => False) w w' := by
  obtain ⟨⟨pr, hts⟩, ls⟩ := r
  obtain ⟨hn1, hn2, hn3⟩ := hn
  unfold rmV
  simp only at *
  have HT1 := Lib.hid h1; have HT2 := Lib.hid h2
  obtain ⟨a1, c1, rfl, _⟩ := h1
  obtain ⟨a2, c2, rfl, _⟩ := h2
  obtain ⟨d1, k1, xs1, rfl, hx1, hr1, ht1⟩ := g1
  obtain ⟨d2, k2, xs2, rfl, hx2, hr2, ht2⟩ := g2
  have HX1 := Lib.hid hx1; have HR1 := Lib.hid hr1; have HXT1 := Lib.hid ht1
  have HX2 := Lib.hid hx2; have HR2 := Lib.hid hr2; have HXT2 := Lib.hid ht2
  have HN3 := Lib.hid hn3
  clear hx1 hr1 ht1 hx2 hr2 ht2 hn3
  have hm0 : Mod (fun _ => False) w ((w.alloc (.cells #[.string pr, .slice a1 hts.length c1, .slice d1 ls.length k1] 42)).alloc (.cells #[.string pr, .slice a2 hts.length c2, .slice d2 ls.length k2] 42)) := ((Mod.refl _ w).alloc _).alloc _
  have q1 : ((w.alloc (.cells #[.string pr, .slice a1 hts.length c1, .slice d1 ls.length k1] 42)).alloc (.cells #[.string pr, .slice a2 hts.length c2, .slice d2 ls.length k2] 42)).cell? ⟨w.heap.size, 2, none⟩ = some (.slice d1 ls.length k1) := cell_old (cell_new rfl)
  have q2 : ((w.alloc (.cells #[.string pr, .slice a1 hts.length c1, .slice d1 ls.length k1] 42)).alloc (.cells #[.string pr, .slice a2 hts.length c2, .slice d2 ls.length k2] 42)).cell? ⟨w.heap.size + 1, 2, none⟩ = some (.slice d2 ls.length k2) := cell_new rfl (by simp)
  have HA := Lib.hid (law8Atom_true pr hts _ _ _ (HT1.out.mod0 hm0) (HT2.out.mod0 hm0) hn1)
  obtain ⟨w0, hw0⟩ : ∃ w0, w0 = ((w.alloc (.cells #[.string pr, .slice a1 hts.length c1, .slice d1 ls.length k1] 42)).alloc (.cells #[.string pr, .slice a2 hts.length c2, .slice d2 ls.length k2] 42)) := ⟨_, rfl⟩
  have HMW : Hid (∀ w1, Mod (fun _ => False) ((w.alloc (.cells #[.string pr, .slice a1 hts.length c1, .slice d1 ls.length k1] 42)).alloc (.cells #[.string pr, .slice a2 hts.length c2, .slice d2 ls.length k2] 42)) w1 → Mod (fun _ => False) w0 w1) := by rw [hw0]; exact fun _ h => h
  have HM0 : Hid (Mod (fun _ => False) w w0) := by rw [hw0]; exact hm0
  have HQ1 : Hid (w0.cell? ⟨w.heap.size, 2, none⟩ = some (.slice d1 ls.length k1)) := by rw [hw0]; exact q1
  have HQ2 : Hid (w0.cell? ⟨w.heap.size + 1, 2, none⟩ = some (.slice d2 ls.length k2)) := by rw [hw0]; exact q2
  clear hm0 q1 q2 hw0
  go_enter Tryd.func14, Tryd.ntmps14
  go_wp2_with fail
  refine HA.out.mono ?_
  rintro e w1 ⟨rfl, hM1⟩
  have HM1 := Lib.hid (HMW.out _ hM1)
  have t1 := HM1.out.cell HQ1.out id
  have t2 := HM1.out.cell HQ2.out id
  clear hM1 HMW HA
  go_wp2_with fail
  go_loopw [5] (fun iv wr => ∃ k : Nat, iv = .int .i64 k ∧ k ≤ ls.length ∧ Hid (Mod (fun _ => False) w0 wr)) (fun iv _ => ls.length - (intOf iv).toNat)
  case atStart => exact ⟨0, rfl, Nat.zero_le _, HM1⟩
  case round =>
    obtain ⟨k, rfl, hk, hM⟩ := hrel
    have t1 := hM.out.cell HQ1.out id
    have t2 := hM.out.cell HQ2.out id
    clear HM1
    by_cases hlt : k < ls.length
    · obtain ⟨sk1, hx1, hmem1⟩ := xs_get HX1.out hlt
      obtain ⟨sk2, hx2, hmem2⟩ := xs_get HX2.out hlt
      obtain ⟨b1, o1, rfl, x0, x1, x2, x3, x4, x5, x6, x7⟩ := rd_cell8 (HR1.out.mod (HM0.out.trans hM.out) (fun _ _ => id)) hx1
      obtain ⟨b2, o2, rfl, y0, y1, y2, y3, y4, y5, y6, y7⟩ := rd_cell8 (HR2.out.mod (HM0.out.trans hM.out) (fun _ _ => id)) hx2
      have htn := HN3.out _ (List.getElem_mem hlt)
      have HLT := Lib.hid (fun W (m : Mod (fun _ => False) wr W) => law8Lit_true ls[k] sk1 sk2 W ((HXT1.out _ hmem1).mod0 ((HM0.out.trans hM.out).trans m)) ((HXT2.out _ hmem2).mod0 ((HM0.out.trans hM.out).trans m)) htn)
      obtain ⟨sa1, sc1, hsk1, _⟩ := HXT1.out _ hmem1
      obtain ⟨sa2, sc2, hsk2, _⟩ := HXT2.out _ hmem2
      simp only at hsk1 hsk2
      subst hsk1 hsk2
      clear hx1 hx2 hmem1 hmem2 htn
      generalize ls[k] = t at *
      obtain ⟨lk, ⟨lp, lts⟩, lo, ⟨ll1, ll2⟩, ⟨lr1, lr2⟩⟩ := t
      simp only at *
      unfold lmV at HLT
      go_wp2_with fail
      refine wp_region_ord (fun w' => (w'.cell? ⟨w.heap.size, 2, none⟩ = some (.slice (some ⟨b1, o1, none⟩) ls.length k1) ∧ w'.cell? ⟨w.heap.size + 1, 2, none⟩ = some (.slice (some ⟨b2, o2, none⟩) ls.length k2)) ∧ (w'.cell? ⟨b1, o1 + k * 8, none⟩ = some (.int .i64 lk) ∧ w'.cell? ⟨b1, o1 + k * 8 + 1, none⟩ = some (.string lp) ∧ w'.cell? ⟨b1, o1 + k * 8 + 2, none⟩ = some (.slice sa1 lts.length sc1) ∧ w'.cell? ⟨b1, o1 + k * 8 + 3, none⟩ = some (.int .i64 lo) ∧ w'.cell? ⟨b1, o1 + k * 8 + 4, none⟩ = some (.int .i64 ll1) ∧ w'.cell? ⟨b1, o1 + k * 8 + 5, none⟩ = some (.string ll2) ∧ w'.cell? ⟨b1, o1 + k * 8 + 6, none⟩ = some (.int .i64 lr1) ∧ w'.cell? ⟨b1, o1 + k * 8 + 7, none⟩ = some (.string lr2)) ∧ (w'.cell? ⟨b2, o2 + k * 8, none⟩ = some (.int .i64 lk) ∧ w'.cell? ⟨b2, o2 + k * 8 + 1, none⟩ = some (.string lp) ∧ w'.cell? ⟨b2, o2 + k * 8 + 2, none⟩ = some (.slice sa2 lts.length sc2) ∧ w'.cell? ⟨b2, o2 + k * 8 + 3, none⟩ = some (.int .i64 lo) ∧ w'.cell? ⟨b2, o2 + k * 8 + 4, none⟩ = some (.int .i64 ll1) ∧ w'.cell? ⟨b2, o2 + k * 8 + 5, none⟩ = some (.string ll2) ∧ w'.cell? ⟨b2, o2 + k * 8 + 6, none⟩ = some (.int .i64 lr1) ∧ w'.cell? ⟨b2, o2 + k * 8 + 7, none⟩ = some (.string lr2))) [(0, 0), (1, 1), (0, 2), (0, 3), (1, 4), (0, 5), (1, 6), (0, 7), (0, 8), (1, 9), (3, 10), (0, 11)] (by kernel_rfl) (by kernel_rfl) ?_
      go_wp2_with (first
        | (refine ord_pure rfl rfl rfl (fun K hK => ?_); go_big_quiet_op; refine hK _ ?_; clear hK K)
                        | (refine ord_skip rfl rfl ?_; simp only [Act.put, List.setIfInBounds_toArray, List.set_cons_zero, List.set_cons_succ])
                        | (refine ord_held rfl rfl rfl (⟨⟨by simpa using t1, by simpa using t2⟩, ⟨by simpa using x0, by simpa using x1, by simpa using x2, by simpa using x3, by simpa using x4, by simpa using x5, by simpa using x6, by simpa using x7⟩, ⟨by simpa using y0, by simpa using y1, by simpa using y2, by simpa using y3, by simpa using y4, by simpa using y5, by simpa using y6, by simpa using y7⟩⟩) (fun K hK => ?_); apply Exists.intro; refine ⟨fun w' hs => ?_, hK _ ?_⟩; (revert hs; dsimp only; (try simp only [and_imp]); intros; go_simp; rfl); clear hK K)
                        | (refine ord_keep rfl rfl (⟨⟨by simpa using t1, by simpa using t2⟩, ⟨by simpa using x0, by simpa using x1, by simpa using x2, by simpa using x3, by simpa using x4, by simpa using x5, by simpa using x6, by simpa using x7⟩, ⟨by simpa using y0, by simpa using y1, by simpa using y2, by simpa using y3, by simpa using y4, by simpa using y5, by simpa using y6, by simpa using y7⟩⟩) (fun K hK => ?_))
                        | (refine ord_drop rfl rfl (fun K hK => ?_))
                        | (refine ord_nil ?_))
      refine (HLT.out _ ((Mod.refl _ wr).drew)).mono ?_
      rintro e w2 ⟨rfl, hM2⟩
      have HM2 := Lib.hid (hM.out.drew.trans hM2); clear hM2 HLT t1 t2 x0 x1 x2 x3 x4 x5 x6 x7 y0 y1 y2 y3 y4 y5 y6 y7
      go_wp2_with (first
        | (refine ord_pure rfl rfl rfl (fun K hK => ?_); go_big_quiet_op; refine hK _ ?_; clear hK K)
                        | (refine ord_skip rfl rfl ?_; simp only [Act.put, List.setIfInBounds_toArray, List.set_cons_zero, List.set_cons_succ])
                        | (refine ord_held rfl rfl rfl (trivial) (fun K hK => ?_); apply Exists.intro; refine ⟨fun w' hs => ?_, hK _ ?_⟩; (revert hs; dsimp only; (try simp only [and_imp]); intros; go_simp; rfl); clear hK K)
                        | (refine ord_keep rfl rfl (trivial) (fun K hK => ?_))
                        | (refine ord_drop rfl rfl (fun K hK => ?_))
                        | (refine ord_nil ?_))
      go_roundw
      case rel => exact ⟨k + 1, by go_num, hlt, HM2⟩
      case measure => simp [intOf]; omega
    · obtain rfl : k = ls.length := by omega
      go_wp2_with fail
      go_ret
      exact ⟨rfl, HM0.out.trans hM.out⟩
theorem law8Prog_true (rs : List Rm) (s1 s2 : Value) (w : World) (g1 : RsAt w s1 rs) (g2 : RsAt w s2 rs) (hn : rs.length < 2 ^ 30) (hs : ∀ r ∈ rs, SmR r) :
    Calls Tryd.prog 13 #[.agg #[s1], .agg #[s2]] w fun e w' => e = .returned (.bool true) ∧ Mod (fun _ => False) w w' := by
  obtain ⟨d1, k1, xs1, rfl, hx1, hr1, ht1⟩ := g1
  obtain ⟨d2, k2, xs2, rfl, hx2, hr2, ht2⟩ := g2
  have HX1 := Lib.hid hx1; have HR1 := Lib.hid hr1; have HXT1 := Lib.hid ht1
  have HX2 := Lib.hid hx2; have HR2 := Lib.hid hr2; have HXT2 := Lib.hid ht2
  have HS := Lib.hid hs
  clear hx1 hr1 ht1 hx2 hr2 ht2 hs
  have hm0 : Mod (fun _ => False) w ((w.alloc (.cells #[.slice d1 rs.length k1] 33)).alloc (.cells #[.slice d2 rs.length k2] 33)) := ((Mod.refl _ w).alloc _).alloc _
  have q1 : ((w.alloc (.cells #[.slice d1 rs.length k1] 33)).alloc (.cells #[.slice d2 rs.length k2] 33)).cell? ⟨w.heap.size, 0, none⟩ = some (.slice d1 rs.length k1) := cell_old (cell_new rfl)
  have q2 : ((w.alloc (.cells #[.slice d1 rs.length k1] 33)).alloc (.cells #[.slice d2 rs.length k2] 33)).cell? ⟨w.heap.size + 1, 0, none⟩ = some (.slice d2 rs.length k2) := cell_new rfl (by simp)
  go_enter Tryd.func13, Tryd.ntmps13
  go_wp2_with fail
  generalize ((w.alloc (.cells #[.slice d1 rs.length k1] 33)).alloc (.cells #[.slice d2 rs.length k2] 33)) = w0 at *
  have HM0 := Lib.hid hm0; have HQ1 := Lib.hid q1; have HQ2 := Lib.hid q2
  clear hm0 q1 q2
  go_loopw [5] (fun iv wr => ∃ k : Nat, iv = .int .i64 k ∧ k ≤ rs.length ∧ Hid (Mod (fun _ => False) w0 wr)) (fun iv _ => rs.length - (intOf iv).toNat)
  case atStart => exact ⟨0, rfl, Nat.zero_le _, Lib.hid (Mod.refl _ w0)⟩
  case round =>
    obtain ⟨k, rfl, hk, hM⟩ := hrel
    have t1 := hM.out.cell HQ1.out id
    have t2 := hM.out.cell HQ2.out id
    by_cases hlt : k < rs.length
    · obtain ⟨⟨sk1, bk1⟩, hx1, hmem1⟩ := xs_get HX1.out hlt
      obtain ⟨⟨sk2, bk2⟩, hx2, hmem2⟩ := xs_get HX2.out hlt
      obtain ⟨b1, o1, rfl, x0, x1, x2⟩ := rd_cellR (HR1.out.mod (HM0.out.trans hM.out) (fun _ _ => id)) hx1
      obtain ⟨b2, o2, rfl, y0, y1, y2⟩ := rd_cellR (HR2.out.mod (HM0.out.trans hM.out) (fun _ _ => id)) hx2
      have htn := HS.out _ (List.getElem_mem hlt)
      have HLT := Lib.hid (fun W (m : Mod (fun _ => False) wr W) => law8Rule_true rs[k] sk1 sk2 bk1 bk2 W ((HXT1.out _ hmem1).1.mod0 ((HM0.out.trans hM.out).trans m)) ((HXT2.out _ hmem2).1.mod0 ((HM0.out.trans hM.out).trans m)) ((HXT1.out _ hmem1).2.mod0 ((HM0.out.trans hM.out).trans m)) ((HXT2.out _ hmem2).2.mod0 ((HM0.out.trans hM.out).trans m)) htn)
      obtain ⟨⟨sa1, sc1, hsk1, _⟩, ⟨ba1, bc1, ys1, hbk1, _⟩⟩ := HXT1.out _ hmem1
      obtain ⟨⟨sa2, sc2, hsk2, _⟩, ⟨ba2, bc2, ys2, hbk2, _⟩⟩ := HXT2.out _ hmem2
      simp only at hsk1 hsk2 hbk1 hbk2
      subst hsk1 hsk2 hbk1 hbk2
      clear hx1 hx2 hmem1 hmem2 htn
      generalize rs[k] = t at *
      obtain ⟨⟨p, ts⟩, ls⟩ := t
      simp only at *
      unfold rmV at HLT
      go_wp2_with fail
      refine wp_region_ord (fun w' => (w'.cell? ⟨w.heap.size, 0, none⟩ = some (.slice (some ⟨b1, o1, none⟩) rs.length k1) ∧ w'.cell? ⟨w.heap.size + 1, 0, none⟩ = some (.slice (some ⟨b2, o2, none⟩) rs.length k2)) ∧ (w'.cell? ⟨b1, o1 + k * 3, none⟩ = some (.string p) ∧ w'.cell? ⟨b1, o1 + k * 3 + 1, none⟩ = some (.slice sa1 ts.length sc1) ∧ w'.cell? ⟨b1, o1 + k * 3 + 2, none⟩ = some (.slice ba1 ls.length bc1)) ∧ (w'.cell? ⟨b2, o2 + k * 3, none⟩ = some (.string p) ∧ w'.cell? ⟨b2, o2 + k * 3 + 1, none⟩ = some (.slice sa2 ts.length sc2) ∧ w'.cell? ⟨b2, o2 + k * 3 + 2, none⟩ = some (.slice ba2 ls.length bc2))) [(0, 0), (1, 1), (0, 2), (0, 3), (1, 4), (0, 5), (1, 6), (0, 7), (0, 8), (1, 9), (3, 10), (0, 11)] (by kernel_rfl) (by kernel_rfl) ?_
      go_wp2_with (first
        | (refine ord_pure rfl rfl rfl (fun K hK => ?_); go_big_quiet_op; refine hK _ ?_; clear hK K)
                        | (refine ord_skip rfl rfl ?_; simp only [Act.put, List.setIfInBounds_toArray, List.set_cons_zero, List.set_cons_succ])
                        | (refine ord_held rfl rfl rfl (⟨⟨by simpa using t1, by simpa using t2⟩, ⟨by simpa using x0, by simpa using x1, by simpa using x2⟩, ⟨by simpa using y0, by simpa using y1, by simpa using y2⟩⟩) (fun K hK => ?_); apply Exists.intro; refine ⟨fun w' hs => ?_, hK _ ?_⟩; (revert hs; dsimp only; (try simp only [and_imp]); intros; go_simp; rfl); clear hK K)
                        | (refine ord_keep rfl rfl (⟨⟨by simpa using t1, by simpa using t2⟩, ⟨by simpa using x0, by simpa using x1, by simpa using x2⟩, ⟨by simpa using y0, by simpa using y1, by simpa using y2⟩⟩) (fun K hK => ?_))
                        | (refine ord_drop rfl rfl (fun K hK => ?_))
                        | (refine ord_nil ?_))
      refine (HLT.out _ ((Mod.refl _ wr).drew)).mono ?_
      rintro e w2 ⟨rfl, hM2⟩
      have HM2 := Lib.hid (hM.out.drew.trans hM2); clear hM2 HLT t1 t2 x0 x1 x2 y0 y1 y2
      go_wp2_with (first
        | (refine ord_pure rfl rfl rfl (fun K hK => ?_); go_big_quiet_op; refine hK _ ?_; clear hK K)
                        | (refine ord_skip rfl rfl ?_; simp only [Act.put, List.setIfInBounds_toArray, List.set_cons_zero, List.set_cons_succ])
                        | (refine ord_held rfl rfl rfl (trivial) (fun K hK => ?_); apply Exists.intro; refine ⟨fun w' hs => ?_, hK _ ?_⟩; (revert hs; dsimp only; (try simp only [and_imp]); intros; go_simp; rfl); clear hK K)
                        | (refine ord_keep rfl rfl (trivial) (fun K hK => ?_))
                        | (refine ord_drop rfl rfl (fun K hK => ?_))
                        | (refine ord_nil ?_))
      go_roundw
      case rel => exact ⟨k + 1, by go_num, hlt, HM2⟩
      case measure => simp [intOf]; omega
    · obtain rfl : k = rs.length := by omega
      go_wp2_with fail
      go_ret
      exact ⟨rfl, HM0.out.trans hM.out⟩
end Go.Proofs.YteecbbnpgmceiaaDoor
/-
  What the laws of syntax use: bytes lent and kept.
-/
namespace Go.Proofs.YteecbbnpgmceiaaDoor
open Go Go.RowKit Go.Mine
set_option linter.unusedVariables false
set_option maxHeartbeats 1000000
set_option maxRecDepth 100000

theorem bts_cell {w : World} {a : Option Addr} {l : List UInt8} (h : Rd w a (bts l)) {k : Nat} (hk : k < l.length) : ∃ b o, a = some ⟨b, o, none⟩ ∧ w.cell? ⟨b, o + k, none⟩ = some (.int .u8 l[k].toNat) :=
  h k (.int .u8 l[k].toNat) (by rw [bts, List.getElem?_map, List.getElem?_eq_getElem hk]; rfl)
theorem law8Bytes_true (a1 a2 : Option Addr) (c1 c2 : Nat) (l : List UInt8) (w : World) (h1 : Rd w a1 (bts l)) (h2 : Rd w a2 (bts l)) (hn : l.length < 2 ^ 40) :
    Calls Tryd.prog 53 #[.slice a1 l.length c1, .slice a2 l.length c2] w fun e w' => e = .returned (.bool true) ∧ Mod (fun _ => False) w w' := by
  have HR1 := Lib.hid h1; have HR2 := Lib.hid h2
  clear h1 h2
  go_enter Tryd.func53, Tryd.ntmps53
  go_wp2_with fail
  go_loopw [5] (fun iv wr => ∃ k : Nat, iv = .int .i64 k ∧ k ≤ l.length ∧ Hid (Mod (fun _ => False) w wr)) (fun iv _ => l.length - (intOf iv).toNat)
  case atStart => exact ⟨0, rfl, Nat.zero_le _, Lib.hid (Mod.refl _ w)⟩
  case round =>
    obtain ⟨k, rfl, hk, hM⟩ := hrel
    by_cases hlt : k < l.length
    · obtain ⟨b1, o1, rfl, x0⟩ := bts_cell (HR1.out.mod hM.out (fun _ _ => id)) hlt
      obtain ⟨b2, o2, rfl, y0⟩ := bts_cell (HR2.out.mod hM.out (fun _ _ => id)) hlt
      generalize l[k].toNat = u at *
      go_wp2_with fail
      refine wp_region_ord (fun w' => w'.cell? ⟨b1, o1 + k, none⟩ = some (.int .u8 u) ∧ w'.cell? ⟨b2, o2 + k, none⟩ = some (.int .u8 u)) [(0, 0), (0, 1), (0, 2), (1, 3), (0, 4), (0, 5), (0, 6), (1, 7), (0, 8)] (by kernel_rfl) (by kernel_rfl) ?_
      go_wp2_with (first
        | (refine ord_pure rfl rfl rfl (fun K hK => ?_); go_big_quiet_op; refine hK _ ?_; clear hK K)
                        | (refine ord_skip rfl rfl ?_; simp only [Act.put, List.setIfInBounds_toArray, List.set_cons_zero, List.set_cons_succ])
                        | (refine ord_held rfl rfl rfl (⟨by simpa using x0, by simpa using y0⟩) (fun K hK => ?_); apply Exists.intro; refine ⟨fun w' hs => ?_, hK _ ?_⟩; (revert hs; dsimp only; (try simp only [and_imp]); intros; go_simp; rfl); clear hK K)
                        | (refine ord_keep rfl rfl (⟨by simpa using x0, by simpa using y0⟩) (fun K hK => ?_))
                        | (refine ord_drop rfl rfl (fun K hK => ?_))
                        | (refine ord_nil ?_))
      go_roundw
      case rel => exact ⟨k + 1, by go_num, hlt, Lib.hid hM.out.drew⟩
      case measure => simp [intOf]; omega
    · obtain rfl : k = l.length := by omega
      go_wp2_with fail
      go_ret
      exact ⟨rfl, hM.out⟩
theorem law8Lent_any (a : Option Addr) (c : Nat) (l : List UInt8) (w : World) (hr : Rd w a (bts l)) (hn : l.length < 2 ^ 40) :
    Calls Tryd.prog 9 #[.slice a l.length c] w fun e w' => ∃ g c', e = .returned (.slice (some ⟨g, 0, none⟩) l.length c') ∧ w.heap.size ≤ g ∧
      Mine.Own w' 5 1 (some ⟨g, 0, none⟩) (l.length + 2) c' (bts (l ++ [201, 202])) ∧ Mod (fun _ => False) w w' := by
  have HR := Lib.hid hr; clear hr
  go_enter Tryd.func9, Tryd.ntmps9
  go_wp2_with (first
    | (at_builtin; refine wpL_append0 rfl (.tmp 4) (.tmp 5) 22 22 rfl ti24 rfl rfl (Src.ofRd ti24.ht l.length c HR.out (by simp) (bts_one l)) (by omega) (by unfold maxLen; omega) ?_; intro a2 c2 w2 hO2 hM2 hf2 _
       have HO2 := Lib.hid hO2; have HM2 := Lib.hid hM2; have HF2 := Lib.hid hf2; clear hO2 hM2 hf2)
    | (at_builtin; refine wpL_appendN (us := [_, _]) rfl (.tmp 7) (.tmp 8) 22 rfl ti24 rfl HO2.out rfl rfl rfl (by omega) (by unfold maxLen; omega) ?_; intro a3 c3 w3 hO3 hG3 _
       obtain ⟨g3, rfl⟩ := hO3.atHead (by omega)
       have hc3 : l.length + 2 ≤ c3 := by
         obtain ⟨_, _, _, _, h, _⟩ := hO3.2.resolve_left (by simp)
         exact h
       have HO3 := Lib.hid hO3; have HG3 := Lib.hid hG3; clear hO3 hG3))
  go_ret
  refine ⟨g3, c3, rfl, ?_, ?_, ?_⟩
  · rcases HG3.out.pos with e | ⟨b, e, hb⟩
    · exact HF2.out g3 e.symm
    · simp at e; subst e; have := HM2.out.size; omega
  · have := HO3.out
    rw [bts_append]; exact this
  · exact HM2.out.step HG3.out.mod (fun i hi hs => by have := HF2.out i hs; omega)
theorem law8Kept_true (g c1 : Nat) (a2 : Option Addr) (c2 : Nat) (l : List UInt8) (w : World) (hO : Mine.Own w 5 1 (some ⟨g, 0, none⟩) (l.length + 2) c1 (bts (l ++ [201, 202]))) (hr : Rd w a2 (bts l)) (hn : l.length < 2 ^ 40) :
    Calls Tryd.prog 16 #[.slice (some ⟨g, 0, none⟩) l.length c1, .slice a2 l.length c2] w fun e w' => e = .returned (.bool true) ∧ Mod (fun _ => False) w w' := by
  have h1 : Rd w (some ⟨g, 0, none⟩) (bts l) := by
    have := hO.rd.take l.length
    rw [bts_append, List.take_left' (by simp)] at this
    exact this
  have hcell : w.cell? ⟨g, l.length, none⟩ = some (.int .u8 201) := by
    obtain ⟨b, o, e, hc⟩ := hO.rd l.length (.int .u8 201) (by simp [bts])
    cases e
    simpa using hc
  have hcell2 : w.cell? ⟨g, l.length + 1, none⟩ = some (.int .u8 202) := by
    obtain ⟨b, o, e, hc⟩ := hO.rd (l.length + 1) (.int .u8 202) (by simp [bts])
    cases e
    simpa using hc
  have hc1 : l.length + 2 ≤ c1 := by
    obtain ⟨_, _, _, _, h, _⟩ := hO.2.resolve_left (by simp)
    exact h
  have hcm : c1 ≤ maxLen := by
    obtain ⟨_, _, _, _, _, h, _⟩ := hO.2.resolve_left (by simp)
    exact h
  unfold maxLen at hcm
  have HB := Lib.hid (law8Bytes_true (some ⟨g, 0, none⟩) a2 c1 c2 l w h1 hr hn)
  have HC1 := Lib.hid hcell; have HC2 := Lib.hid hcell2
  clear hO hr h1 hcell hcell2
  go_enter Tryd.func16, Tryd.ntmps16
  go_wp2_with fail
  refine HB.out.mono ?_
  rintro e w2 ⟨rfl, hM⟩
  have x1 := hM.cell HC1.out id
  have x2 := hM.cell HC2.out id
  have HM := Lib.hid hM
  clear hM HC1 HC2 HB
  go_wp2_with fail
  go_ret
  exact ⟨rfl, HM.out⟩
end Go.Proofs.YteecbbnpgmceiaaDoor
