/- SyntaxMays answers true of every program of bulk at most 1048576, where the tables of utf8 lie. -/
import Derived.Test.YtgplagdehfhffaaDoorAwake
import Derived.Test.YtgplagdehfhffaaDoorKept8
import Derived.Test.YtgplagdehfhffaaDoorRefMayG
namespace Go.Proofs.YtgplagdehfhffaaDoor
open Go Go.RowKit Go.Mine
set_option maxHeartbeats 8000000
set_option maxRecDepth 100000
set_option linter.unusedVariables false

theorem synMays_walk (rs : List Rm) (v0 : Value) (w : World) (hr : RsAt w v0 rs) (hs : SmallPm rs) (hT : Lib.Utf8Tabs 1 2 w) :
    Calls Tryd.prog 4 #[.agg #[v0]] w fun e w' => e = .returned (.bool true) ∧ Mod (fun _ => False) w w' := by
  obtain ⟨ad, c, xv, rfl, hx, hrx, hxt⟩ := id hr
  have hmA : Mod (fun _ => False) w (w.alloc (.cells #[.slice ad rs.length c] 26)) := (Mod.refl _ w).alloc _
  have p0 : (w.alloc (.cells #[.slice ad rs.length c] 26)).cell? ⟨w.heap.size, 0, none⟩ = some (.slice ad rs.length c) := cell_new rfl
  have hsz : (w.alloc (.cells #[.slice ad rs.length c] 26)).heap.size = w.heap.size + 1 := by simp
  have HA := Lib.hid (L8.lent_any rs _ _ (hr.mod0 hmA) hs)
  have HMA := Lib.hid hmA; have HR0 := Lib.hid hr; have HP0 := Lib.hid p0; have HSM := Lib.hid hs
  have HX := Lib.hid hx; have HR := Lib.hid hrx; have HXT := Lib.hid hxt; have HT := Lib.hid hT
  have HSZ := Lib.hid hsz
  have HN := Lib.hid law8Num_any
  have hnn := hs.1
  clear hr hmA p0 hs hx hrx hxt hT hsz
  go_enter Tryd.func4, Tryd.ntmps4
  go_wp2_with fail
  generalize (w.alloc (.cells #[.slice ad rs.length c] 26)) = wA at *
  refine HA.out.mono ?_
  rintro e wo ⟨gp, cp, ys, rfl, hO, hM1⟩
  have hm2 : Mod (fun _ => False) wA (wo.alloc (.cells #[.slice (some ⟨gp, 0, none⟩) rs.length cp] 26)) := hM1.alloc _
  have hO2 := hO.mod ((Mod.refl (fun _ => False) wo).alloc (.cells #[.slice (some ⟨gp, 0, none⟩) rs.length cp] 26)) (fun _ _ => id)
  have q0 : (wo.alloc (.cells #[.slice (some ⟨gp, 0, none⟩) rs.length cp] 26)).cell? ⟨wo.heap.size, 0, none⟩ = some (.slice (some ⟨gp, 0, none⟩) rs.length cp) := cell_new rfl
  have HB := Lib.hid (May_any rs _ _ HSM.out hO2.rsAt)
  obtain ⟨B, hB⟩ : ∃ B, B = wo.heap.size := ⟨_, rfl⟩
  rw [← hB] at q0
  have HBE := Lib.hid hB
  have hne : w.heap.size ≠ B := by have := hM1.size; rw [HSZ.out] at this; omega
  have HO2 := Lib.hid hO2; have HM2 := Lib.hid (HMA.out.trans hm2); have HQ0 := Lib.hid q0; have HPA := Lib.hid (hm2.cell HP0.out id)
  clear hO hO2 hM1 hm2 HA q0 HP0 hB HMA
  go_wp2_with fail
  rw [← HBE.out]
  generalize (wo.alloc (.cells #[.slice (some ⟨gp, 0, none⟩) rs.length cp] 26)) = w2 at *
  have HMP := Lib.hid (show ∃ X, X = mayPm rs from ⟨_, rfl⟩)
  have HRP := Lib.hid (fun (W : World) (m : Mod (fun _ => False) w2 W) => RefMay_any rs _ W HSM.out (HR0.out.mod0 (HM2.out.trans m)))
  have HKP := Lib.hid (fun (W : World) (m : Mod (fun _ => False) w2 W) => L8.kept_true rs _ _ gp cp ys W (HO2.out.mod m (fun _ _ => id)) (HR0.out.mod0 (HM2.out.trans m)) HSM.out)
  have HSS : Hid (∀ W, Mod (fun _ => False) w2 W → W.cell? ⟨w.heap.size, 0, none⟩ = some (.slice ad rs.length c) ∧ W.cell? ⟨B, 0, none⟩ = some (.slice (some ⟨gp, 0, none⟩) rs.length cp)) := fun W m => ⟨m.cell HPA.out id, m.cell HQ0.out id⟩
  generalize mayPm rs = X at *
  refine HB.out.mono ?_
  rintro e w3 ⟨rfl, hM3⟩
  have HC := Lib.hid hM3; clear hM3 HB
  go_wp2_with fail
  refine wp_region_ord (fun w' => w'.cell? ⟨w.heap.size, 0, none⟩ = some (.slice ad rs.length c) ∧ w'.cell? ⟨B, 0, none⟩ = some (.slice (some ⟨gp, 0, none⟩) rs.length cp)) [(0, 0), (1, 2), (2, 1), (3, 3), (0, 4), (0, 5), (1, 6), (1, 7), (3, 8), (0, 9), (0, 10)] (by kernel_rfl) (by kernel_rfl) ?_
  have HC1 := Lib.hid (HC.out.drew)
  go_wp2_with (first
    | (refine ord_pure rfl rfl rfl (fun K hK => ?_); go_big_quiet_op; refine hK _ ?_; clear hK K)
                        | (refine ord_skip rfl rfl ?_; simp only [Act.put, List.setIfInBounds_toArray, List.set_cons_zero, List.set_cons_succ])
                        | (refine ord_held rfl rfl rfl (HSS.out _ HC1.out) (fun K hK => ?_); apply Exists.intro; refine ⟨fun w' hs => ?_, hK _ ?_⟩; (revert hs; dsimp only; (try simp only [and_imp]); intros; go_simp; rfl); clear hK K)
                        | (refine ord_keep rfl rfl (HSS.out _ HC1.out) (fun K hK => ?_))
                        | (refine ord_drop rfl rfl (fun K hK => ?_))
                        | (refine ord_nil ?_))
  refine (HN.out _ _).mono ?_
  rintro e w' ⟨rfl, rfl⟩
  refine hK _ _ (HSS.out _ HC1.out) ?_; clear hK K
  go_wp2_with (first
    | (refine ord_pure rfl rfl rfl (fun K hK => ?_); go_big_quiet_op; refine hK _ ?_; clear hK K)
                        | (refine ord_skip rfl rfl ?_; simp only [Act.put, List.setIfInBounds_toArray, List.set_cons_zero, List.set_cons_succ])
                        | (refine ord_held rfl rfl rfl (HSS.out _ HC1.out) (fun K hK => ?_); apply Exists.intro; refine ⟨fun w' hs => ?_, hK _ ?_⟩; (revert hs; dsimp only; (try simp only [and_imp]); intros; go_simp; rfl); clear hK K)
                        | (refine ord_keep rfl rfl (HSS.out _ HC1.out) (fun K hK => ?_))
                        | (refine ord_drop rfl rfl (fun K hK => ?_))
                        | (refine ord_nil ?_))
  refine (HRP.out _ HC1.out).mono ?_
  rintro e w4 ⟨rfl, hM4⟩
  have HC2 := Lib.hid (HC1.out.trans hM4); clear hM4 HC1
  go_wp2_with (first
    | (refine ord_pure rfl rfl rfl (fun K hK => ?_); go_big_quiet_op; refine hK _ ?_; clear hK K)
                        | (refine ord_skip rfl rfl ?_; simp only [Act.put, List.setIfInBounds_toArray, List.set_cons_zero, List.set_cons_succ])
                        | (refine ord_held rfl rfl rfl (HSS.out _ HC2.out) (fun K hK => ?_); apply Exists.intro; refine ⟨fun w' hs => ?_, hK _ ?_⟩; (revert hs; dsimp only; (try simp only [and_imp]); intros; go_simp; rfl); clear hK K)
                        | (refine ord_keep rfl rfl (HSS.out _ HC2.out) (fun K hK => ?_))
                        | (refine ord_drop rfl rfl (fun K hK => ?_))
                        | (refine ord_nil ?_))
  refine (HKP.out _ HC2.out).mono ?_
  rintro e w5 ⟨rfl, hM5⟩
  have HC3 := Lib.hid (HC2.out.trans hM5); clear hM5 HC2
  go_wp2_with (first
    | (refine ord_pure rfl rfl rfl (fun K hK => ?_); go_big_quiet_op; refine hK _ ?_; clear hK K)
                        | (refine ord_skip rfl rfl ?_; simp only [Act.put, List.setIfInBounds_toArray, List.set_cons_zero, List.set_cons_succ])
                        | (refine ord_held rfl rfl rfl (HSS.out _ HC3.out) (fun K hK => ?_); apply Exists.intro; refine ⟨fun w' hs => ?_, hK _ ?_⟩; (revert hs; dsimp only; (try simp only [and_imp]); intros; go_simp; rfl); clear hK K)
                        | (refine ord_keep rfl rfl (HSS.out _ HC3.out) (fun K hK => ?_))
                        | (refine ord_drop rfl rfl (fun K hK => ?_))
                        | (refine ord_nil ?_))
  clear HC HRP HMP
  have HM3 := Lib.hid (HM2.out.trans HC3.out)
  have HAW := Lib.hid (fun W (m : Mod (fun _ => False) w W) => awake_true W (tabs_mod HT.out m))
  go_loopw [5] (fun iv wr => ∃ k : Nat, iv = .int .i64 k ∧ k ≤ rs.length ∧ Hid (Mod (fun _ => False) w2 wr)) (fun iv _ => rs.length - (intOf iv).toNat)
  case atStart => exact ⟨0, rfl, Nat.zero_le _, HC3⟩
  case round =>
    obtain ⟨k, rfl, hk, hM⟩ := hrel
    clear HC3 HM3
    obtain ⟨t1, t2⟩ := HSS.out _ hM.out
    by_cases hlt : k < rs.length
    · have hyl : ys.length = rs.length := by have := congrArg List.length HO2.out.hy; simpa using this
      have hky : k < ys.length := by omega
      obtain ⟨⟨sk, bk⟩, hx, hmem⟩ := xs_get HX.out hlt
      obtain ⟨bb, o, rfl, x0, x1, x2⟩ := rd_cellR (HR.out.mod (HM2.out.trans hM.out) (fun _ _ => id)) hx
      have hyr : ys[k].r = rs[k] := by
        have h1 : (ys.map L8.Yr.r)[k]? = some ys[k].r := by simp [hky]
        rw [HO2.out.hy, List.getElem?_eq_getElem hlt] at h1
        exact (Option.some.inj h1).symm
      have hyg : (ys.map L8.yV)[k]? = some (ys[k].r, .slice (some ⟨ys[k].gh, 0, none⟩) ys[k].r.head.terms.length ys[k].ch, .slice (some ⟨ys[k].gb, 0, none⟩) ys[k].r.body.length ys[k].cb) := by
        rw [List.getElem?_map, List.getElem?_eq_getElem hky]; rfl
      have HOr := Lib.hid (HO2.out.mod hM.out (fun _ _ => id))
      obtain ⟨b1, o1, e1, y0, y1, y2⟩ := rd_cellR HOr.out.at hyg
      cases e1
      simp only [Nat.zero_add] at y0 y1 y2
      have hsm := HSM.out.2 _ (List.getElem_mem hlt)
      have hoy : L8.OwnY wr ys[k] := HOr.out.each _ (List.getElem_mem hky)
      have HTS := Lib.hid ((HXT.out _ hmem).1.mod0 (HM2.out.trans hM.out))
      have HLS := Lib.hid ((HXT.out _ hmem).2.mod0 (HM2.out.trans hM.out))
      obtain ⟨⟨sa, sc, hsk, _⟩, ⟨ba, bc, _, hbk, _⟩⟩ := HXT.out _ hmem
      simp only at hsk hbk
      subst hsk hbk
      simp only at HTS HLS
      clear HOr hx hmem
      generalize ys[k] = y at *
      obtain ⟨yr, gh, ch, gb, cb, xs, ylo, yhi⟩ := y
      simp only at hyr y0 y1 y2 hyg
      unfold L8.OwnY at hoy
      simp only at hoy
      subst hyr
      clear hyg
      generalize rs[k] = t at *
      obtain ⟨⟨pr, hts⟩, ls⟩ := t
      simp only at x0 x1 x2 y0 y1 y2 HTS HLS
      have HOY := Lib.hid hoy; have HSMR := Lib.hid hsm
      have HY := Lib.hid (And.intro y0 (And.intro y1 y2)); have HXC := Lib.hid (And.intro x0 (And.intro x1 x2))
      have hll : ls.length < 2 ^ 30 := hsm.2.1
      clear hoy hsm
      have HMR := Lib.hid (MayRule_any ⟨⟨pr, hts⟩, ls⟩ _ _ wr HSMR.out HOY.out.head.at HOY.out.lsAt)
      have HMA := Lib.hid (fun W (m : Mod (fun _ => False) wr W) => MayAtom_any ⟨pr, hts⟩ _ W HSMR.out.1 (HOY.out.head.at.mod0 m))
      have HRR := Lib.hid (fun W (m : Mod (fun _ => False) wr W) => RefMayRule_any ⟨⟨pr, hts⟩, ls⟩ _ _ W HSMR.out (HTS.out.mod0 m) (HLS.out.mod0 m))
      have HRA := Lib.hid (fun W (m : Mod (fun _ => False) wr W) => RefMayAtom_any ⟨pr, hts⟩ _ W HSMR.out.1 (HTS.out.mod0 m))
      have HSR : Hid (∀ W, Mod (fun _ => False) wr W → (W.cell? ⟨w.heap.size, 0, none⟩ = some (.slice (some ⟨bb, o, none⟩) rs.length c) ∧ W.cell? ⟨B, 0, none⟩ = some (.slice (some ⟨gp, 0, none⟩) rs.length cp)) ∧
          (W.cell? ⟨gp, k * 3, none⟩ = some (.string pr) ∧ W.cell? ⟨gp, k * 3 + 1, none⟩ = some (.slice (some ⟨gh, 0, none⟩) hts.length ch) ∧ W.cell? ⟨gp, k * 3 + 2, none⟩ = some (.slice (some ⟨gb, 0, none⟩) ls.length cb)) ∧
          (W.cell? ⟨bb, o + k * 3, none⟩ = some (.string pr) ∧ W.cell? ⟨bb, o + k * 3 + 1, none⟩ = some (.slice sa hts.length sc) ∧ W.cell? ⟨bb, o + k * 3 + 2, none⟩ = some (.slice ba ls.length bc))) :=
        fun W m => ⟨HSS.out _ (hM.out.trans m), ⟨m.cell HY.out.1 id, m.cell HY.out.2.1 id, m.cell HY.out.2.2 id⟩, ⟨m.cell HXC.out.1 id, m.cell HXC.out.2.1 id, m.cell HXC.out.2.2 id⟩⟩
      unfold rmV at HMR HRR
      simp only at HMA HRA HMR HRR
      generalize mayRm ⟨⟨pr, hts⟩, ls⟩ = X1 at *
      generalize mayAm false ⟨pr, hts⟩ = X2 at *
      clear x0 x1 x2
      go_wp2_with fail
      refine HMR.out.mono ?_
      rintro e v1 ⟨rfl, hV1⟩
      have HV1 := Lib.hid hV1; clear hV1 HMR y0 y1 y2 t1 t2
      obtain ⟨⟨t1, t2⟩, ⟨y0, y1, y2⟩, _⟩ := HSR.out _ HV1.out
      go_wp2_with fail
      refine (HMA.out _ HV1.out).mono ?_
      rintro e v2 ⟨rfl, hV2⟩
      have HV2 := Lib.hid (HV1.out.trans hV2); clear hV2 HMA y0 y1 y2 t1 t2 HV1
      go_wp2_with fail
      refine wp_region_ord (fun W => (W.cell? ⟨w.heap.size, 0, none⟩ = some (.slice (some ⟨bb, o, none⟩) rs.length c) ∧ W.cell? ⟨B, 0, none⟩ = some (.slice (some ⟨gp, 0, none⟩) rs.length cp)) ∧ (W.cell? ⟨gp, k * 3, none⟩ = some (.string pr) ∧ W.cell? ⟨gp, k * 3 + 1, none⟩ = some (.slice (some ⟨gh, 0, none⟩) hts.length ch) ∧ W.cell? ⟨gp, k * 3 + 2, none⟩ = some (.slice (some ⟨gb, 0, none⟩) ls.length cb)) ∧ (W.cell? ⟨bb, o + k * 3, none⟩ = some (.string pr) ∧ W.cell? ⟨bb, o + k * 3 + 1, none⟩ = some (.slice sa hts.length sc) ∧ W.cell? ⟨bb, o + k * 3 + 2, none⟩ = some (.slice ba ls.length bc))) [(0, 0), (0, 2), (1, 3), (0, 4), (0, 5), (1, 6), (2, 1), (3, 7), (0, 8), (0, 9), (0, 10), (0, 12), (1, 13), (0, 14), (0, 15), (0, 16), (1, 17), (2, 11), (3, 18), (0, 19), (0, 20)] (by kernel_rfl) (by kernel_rfl) ?_
      have HD := Lib.hid (HV2.out.drew)
      go_wp2_with (first
        | (refine ord_pure rfl rfl rfl (fun K hK => ?_); go_big_quiet_op; refine hK _ ?_; clear hK K)
                        | (refine ord_skip rfl rfl ?_; simp only [Act.put, List.setIfInBounds_toArray, List.set_cons_zero, List.set_cons_succ])
                        | (refine ord_held rfl rfl rfl (HSR.out _ HD.out) (fun K hK => ?_); apply Exists.intro; refine ⟨fun w' hs => ?_, hK _ ?_⟩; (revert hs; dsimp only; (try simp only [and_imp]); intros; go_simp; rfl); clear hK K)
                        | (refine ord_keep rfl rfl (HSR.out _ HD.out) (fun K hK => ?_))
                        | (refine ord_drop rfl rfl (fun K hK => ?_))
                        | (refine ord_nil ?_))
      refine (HN.out _ _).mono ?_
      rintro e w' ⟨rfl, rfl⟩
      refine hK _ _ (HSR.out _ HD.out) ?_; clear hK K
      go_wp2_with (first
        | (refine ord_pure rfl rfl rfl (fun K hK => ?_); go_big_quiet_op; refine hK _ ?_; clear hK K)
                        | (refine ord_skip rfl rfl ?_; simp only [Act.put, List.setIfInBounds_toArray, List.set_cons_zero, List.set_cons_succ])
                        | (refine ord_held rfl rfl rfl (HSR.out _ HD.out) (fun K hK => ?_); apply Exists.intro; refine ⟨fun w' hs => ?_, hK _ ?_⟩; (revert hs; dsimp only; (try simp only [and_imp]); intros; go_simp; rfl); clear hK K)
                        | (refine ord_keep rfl rfl (HSR.out _ HD.out) (fun K hK => ?_))
                        | (refine ord_drop rfl rfl (fun K hK => ?_))
                        | (refine ord_nil ?_))
      refine (HRR.out _ HD.out).mono ?_
      rintro e v3 ⟨rfl, hV3⟩
      have HV3 := Lib.hid (HD.out.trans hV3); clear hV3 HRR HD HV2
      go_wp2_with (first
        | (refine ord_pure rfl rfl rfl (fun K hK => ?_); go_big_quiet_op; refine hK _ ?_; clear hK K)
                        | (refine ord_skip rfl rfl ?_; simp only [Act.put, List.setIfInBounds_toArray, List.set_cons_zero, List.set_cons_succ])
                        | (refine ord_held rfl rfl rfl (HSR.out _ HV3.out) (fun K hK => ?_); apply Exists.intro; refine ⟨fun w' hs => ?_, hK _ ?_⟩; (revert hs; dsimp only; (try simp only [and_imp]); intros; go_simp; rfl); clear hK K)
                        | (refine ord_keep rfl rfl (HSR.out _ HV3.out) (fun K hK => ?_))
                        | (refine ord_drop rfl rfl (fun K hK => ?_))
                        | (refine ord_nil ?_))
      refine (HN.out _ _).mono ?_
      rintro e w' ⟨rfl, rfl⟩
      refine hK _ _ (HSR.out _ HV3.out) ?_; clear hK K
      go_wp2_with (first
        | (refine ord_pure rfl rfl rfl (fun K hK => ?_); go_big_quiet_op; refine hK _ ?_; clear hK K)
                        | (refine ord_skip rfl rfl ?_; simp only [Act.put, List.setIfInBounds_toArray, List.set_cons_zero, List.set_cons_succ])
                        | (refine ord_held rfl rfl rfl (HSR.out _ HV3.out) (fun K hK => ?_); apply Exists.intro; refine ⟨fun w' hs => ?_, hK _ ?_⟩; (revert hs; dsimp only; (try simp only [and_imp]); intros; go_simp; rfl); clear hK K)
                        | (refine ord_keep rfl rfl (HSR.out _ HV3.out) (fun K hK => ?_))
                        | (refine ord_drop rfl rfl (fun K hK => ?_))
                        | (refine ord_nil ?_))
      refine (HRA.out _ HV3.out).mono ?_
      rintro e v4 ⟨rfl, hV4⟩
      have HV4 := Lib.hid (HV3.out.trans hV4); clear hV4 HRA HV3
      go_wp2_with (first
        | (refine ord_pure rfl rfl rfl (fun K hK => ?_); go_big_quiet_op; refine hK _ ?_; clear hK K)
                        | (refine ord_skip rfl rfl ?_; simp only [Act.put, List.setIfInBounds_toArray, List.set_cons_zero, List.set_cons_succ])
                        | (refine ord_held rfl rfl rfl (HSR.out _ HV4.out) (fun K hK => ?_); apply Exists.intro; refine ⟨fun w' hs => ?_, hK _ ?_⟩; (revert hs; dsimp only; (try simp only [and_imp]); intros; go_simp; rfl); clear hK K)
                        | (refine ord_keep rfl rfl (HSR.out _ HV4.out) (fun K hK => ?_))
                        | (refine ord_drop rfl rfl (fun K hK => ?_))
                        | (refine ord_nil ?_))
      have HSM2 := Lib.hid HSMR.out.2.2
      clear HXC HY
      go_loopw [8] (fun iv ws => ∃ j : Nat, iv = .int .i64 j ∧ j ≤ ls.length ∧ Hid (Mod (fun _ => False) wr ws)) (fun iv _ => ls.length - (intOf iv).toNat)
      case atStart => exact ⟨0, rfl, Nat.zero_le _, HV4⟩
      case round =>
        clear HV4
        rename_i wq _
        obtain ⟨j, rfl, hj, hMj⟩ := hrel
        obtain ⟨⟨t1, t2⟩, ⟨y0, y1, y2⟩, ⟨x0, x1, x2⟩⟩ := HSR.out _ hMj.out
        by_cases hlj : j < ls.length
        · obtain ⟨g, cg, hmem, hget⟩ := HOY.out.lit (k := j) hlj
          obtain ⟨b1, o1, e1, z0, z1, z2, z3, z4, z5, z6, z7⟩ := rd_cell8 ((L8.OwnL.at HOY.out.body).mod hMj.out (fun _ _ => id)) hget
          cases e1
          simp only [Nat.zero_add] at z1 z2
          have HTI := Lib.hid ((HOY.out.terms _ hmem).mod hMj.out id).at
          have hsl := (HSM2.out _ (List.getElem_mem hlj)).1
          obtain ⟨ba', bc', xl, e2, hx2, hr2, ht2⟩ := HLS.out
          cases e2
          obtain ⟨sk, hx3, hmem3⟩ := xs_get hx2 hlj
          obtain ⟨b2, o2, rfl, u0, u1, u2, u3, u4, u5, u6, u7⟩ := rd_cell8 (hr2.mod hMj.out (fun _ _ => id)) hx3
          have hts3 := (ht2 _ hmem3).mod0 hMj.out
          obtain ⟨sa3, sc3, e3, _⟩ := ht2 _ hmem3
          simp only at e3
          subst e3
          clear z0 z3 z4 z5 z6 z7 u0 u3 u4 u5 u6 u7 hget hmem hx2 hr2 ht2 hx3 hmem3
          simp only at hts3 HTI
          have HJ := Lib.hid (And.intro u1 u2)
          generalize ls[j] = lt at *
          obtain ⟨lk, ⟨lp, lts⟩, lo, ll, lr⟩ := lt
          simp only at hts3 HTI hsl HJ z1 z2
          have HMB := Lib.hid (MayAtom_any ⟨lp, lts⟩ _ wr hsl HTI.out)
          have HRB := Lib.hid (fun W (m : Mod (fun _ => False) wr W) => RefMayAtom_any ⟨lp, lts⟩ _ W hsl (hts3.mod0 m))
          have HSJ : Hid (∀ W, Mod (fun _ => False) wr W → W.cell? ⟨w.heap.size, 0, none⟩ = some (.slice (some ⟨bb, o, none⟩) rs.length c) ∧ W.cell? ⟨bb, o + k * 3 + 2, none⟩ = some (.slice (some ⟨b2, o2, none⟩) ls.length bc) ∧ W.cell? ⟨b2, o2 + j * 8 + 1, none⟩ = some (.string lp) ∧ W.cell? ⟨b2, o2 + j * 8 + 2, none⟩ = some (.slice sa3 lts.length sc3)) :=
            fun W m => ⟨m.cell t1 id, m.cell x2 id, m.cell HJ.out.1 id, m.cell HJ.out.2 id⟩
          clear u1 u2 hts3
          simp only at HMB HRB
          generalize mayAm false ⟨lp, lts⟩ = X3 at *
          go_wp2_with fail
          refine HMB.out.mono ?_
          rintro e s1 ⟨rfl, hS1⟩
          have HS1 := Lib.hid hS1; clear hS1 HMB y0 y1 y2 t1 t2 x0 x1 x2 z1 z2
          go_wp2_with fail
          refine wp_region_ord (fun W => W.cell? ⟨w.heap.size, 0, none⟩ = some (.slice (some ⟨bb, o, none⟩) rs.length c) ∧ W.cell? ⟨bb, o + k * 3 + 2, none⟩ = some (.slice (some ⟨b2, o2, none⟩) ls.length bc) ∧ W.cell? ⟨b2, o2 + j * 8 + 1, none⟩ = some (.string lp) ∧ W.cell? ⟨b2, o2 + j * 8 + 2, none⟩ = some (.slice sa3 lts.length sc3)) [(0, 0), (0, 2), (1, 3), (0, 4), (0, 5), (0, 6), (1, 7), (0, 8), (0, 9), (0, 10), (1, 11), (2, 1), (3, 12), (0, 13)] (by kernel_rfl) (by kernel_rfl) ?_
          have HD := Lib.hid (HS1.out.drew)
          go_wp2_with (first
            | (refine ord_pure rfl rfl rfl (fun K hK => ?_); go_big_quiet_op; refine hK _ ?_; clear hK K)
                        | (refine ord_skip rfl rfl ?_; simp only [Act.put, List.setIfInBounds_toArray, List.set_cons_zero, List.set_cons_succ])
                        | (refine ord_held rfl rfl rfl (HSJ.out _ HD.out) (fun K hK => ?_); apply Exists.intro; refine ⟨fun w' hs => ?_, hK _ ?_⟩; (revert hs; dsimp only; (try simp only [and_imp]); intros; go_simp; rfl); clear hK K)
                        | (refine ord_keep rfl rfl (HSJ.out _ HD.out) (fun K hK => ?_))
                        | (refine ord_drop rfl rfl (fun K hK => ?_))
                        | (refine ord_nil ?_))
          refine (HN.out _ _).mono ?_
          rintro e w' ⟨rfl, rfl⟩
          refine hK _ _ (HSJ.out _ HD.out) ?_; clear hK K
          go_wp2_with (first
            | (refine ord_pure rfl rfl rfl (fun K hK => ?_); go_big_quiet_op; refine hK _ ?_; clear hK K)
                        | (refine ord_skip rfl rfl ?_; simp only [Act.put, List.setIfInBounds_toArray, List.set_cons_zero, List.set_cons_succ])
                        | (refine ord_held rfl rfl rfl (HSJ.out _ HD.out) (fun K hK => ?_); apply Exists.intro; refine ⟨fun w' hs => ?_, hK _ ?_⟩; (revert hs; dsimp only; (try simp only [and_imp]); intros; go_simp; rfl); clear hK K)
                        | (refine ord_keep rfl rfl (HSJ.out _ HD.out) (fun K hK => ?_))
                        | (refine ord_drop rfl rfl (fun K hK => ?_))
                        | (refine ord_nil ?_))
          refine (HRB.out _ HD.out).mono ?_
          rintro e s3 ⟨rfl, hS3⟩
          have HS3 := Lib.hid (hMj.out.trans (HD.out.trans hS3)); clear hS3 HRB HD HS1
          go_wp2_with (first
            | (refine ord_pure rfl rfl rfl (fun K hK => ?_); go_big_quiet_op; refine hK _ ?_; clear hK K)
                        | (refine ord_skip rfl rfl ?_; simp only [Act.put, List.setIfInBounds_toArray, List.set_cons_zero, List.set_cons_succ])
                        | (refine ord_held rfl rfl rfl (trivial) (fun K hK => ?_); apply Exists.intro; refine ⟨fun w' hs => ?_, hK _ ?_⟩; (revert hs; dsimp only; (try simp only [and_imp]); intros; go_simp; rfl); clear hK K)
                        | (refine ord_keep rfl rfl (trivial) (fun K hK => ?_))
                        | (refine ord_drop rfl rfl (fun K hK => ?_))
                        | (refine ord_nil ?_))
          go_roundw
          case rel => exact ⟨j + 1, by go_num, hlj, HS3⟩
          case measure => simp [intOf]; omega
        · obtain rfl : j = ls.length := by omega
          go_wp2_with fail
          go_roundw
          case rel => exact ⟨k + 1, by go_num, hlt, Lib.hid (hM.out.trans hMj.out)⟩
          case measure => simp [intOf]; omega
    · obtain rfl : k = rs.length := by omega
      go_wp2_with fail
      refine (HKP.out _ hM.out).mono ?_
      rintro e w6 ⟨rfl, hM6⟩
      have HM6 := Lib.hid (hM.out.trans hM6); clear hM6
      go_wp2_with fail
      refine (HAW.out _ (HM2.out.trans HM6.out)).mono ?_
      rintro e w7 ⟨rfl, hM7⟩
      have HM7 := Lib.hid (HM6.out.trans hM7); clear hM7
      go_wp2_with fail
      go_ret
      exact ⟨rfl, HM2.out.trans HM7.out⟩
end Go.Proofs.YtgplagdehfhffaaDoor
