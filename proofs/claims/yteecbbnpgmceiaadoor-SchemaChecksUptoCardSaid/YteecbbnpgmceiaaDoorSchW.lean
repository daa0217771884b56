/- SchemaChecks answers true of every program of bulk at most 1048576, where the tables of utf8 lie. -/
import Derived.Test.YteecbbnpgmceiaaDoorSchA
import Derived.Test.YteecbbnpgmceiaaDoorSchR5
import Derived.Test.YteecbbnpgmceiaaDoorKp11
namespace Go.Proofs.YteecbbnpgmceiaaDoor
open Go Go.RowKit Go.Mine
set_option maxHeartbeats 8000000
set_option maxRecDepth 100000
set_option linter.unusedVariables false

theorem schChecks_walk (rs : List Rm) (v0 : Value) (w : World) (hr : RsAt w v0 rs) (hs : SmallPm rs) (hso : ∀ r ∈ rs, SchOk r) (hT : Lib.Utf8Tabs 1 2 w) :
    Calls Tryd.prog 4 #[.agg #[v0]] w fun e w' => e = .returned (.bool true) ∧ Mod (fun _ => False) w w' := by
  obtain ⟨ad, c, xv, rfl, hx, hrx, hxt⟩ := id hr
  have hmA : Mod (fun _ => False) w (w.alloc (.cells #[.slice ad rs.length c] 33)) := (Mod.refl _ w).alloc _
  have p0 : (w.alloc (.cells #[.slice ad rs.length c] 33)).cell? ⟨w.heap.size, 0, none⟩ = some (.slice ad rs.length c) := cell_new rfl
  have hsz : (w.alloc (.cells #[.slice ad rs.length c] 33)).heap.size = w.heap.size + 1 := by simp
  have HA := Lib.hid (L8.lent11_any rs _ _ (hr.mod0 hmA) hs)
  have HMA := Lib.hid hmA; have HR0 := Lib.hid hr; have HP0 := Lib.hid p0; have HSM := Lib.hid hs; have HSO := Lib.hid hso
  have HX := Lib.hid hx; have HR := Lib.hid hrx; have HXT := Lib.hid hxt; have HT := Lib.hid hT
  have HSZ := Lib.hid hsz
  have HN := Lib.hid L11.num_any
  have hnn := hs.1
  clear hr hmA p0 hs hx hrx hxt hT hsz hso
  go_enter Tryd.func4, Tryd.ntmps4
  go_wp2_with fail
  generalize (w.alloc (.cells #[.slice ad rs.length c] 33)) = wA at *
  refine HA.out.mono ?_
  rintro e wo ⟨gp, cp, ys, rfl, hO, hM1⟩
  have hm2 : Mod (fun _ => False) wA (wo.alloc (.cells #[.slice (some ⟨gp, 0, none⟩) rs.length cp] 33)) := hM1.alloc _
  have hO2 := hO.mod ((Mod.refl (fun _ => False) wo).alloc (.cells #[.slice (some ⟨gp, 0, none⟩) rs.length cp] 33)) (fun _ _ => id)
  have q0 : (wo.alloc (.cells #[.slice (some ⟨gp, 0, none⟩) rs.length cp] 33)).cell? ⟨wo.heap.size, 0, none⟩ = some (.slice (some ⟨gp, 0, none⟩) rs.length cp) := cell_new rfl
  have HB := Lib.hid (Check_any rs _ _ hO2.rsAt hnn HSO.out)
  obtain ⟨B, hB⟩ : ∃ B, B = wo.heap.size := ⟨_, rfl⟩
  rw [← hB] at q0
  have HBE := Lib.hid hB
  have hne : w.heap.size ≠ B := by have := hM1.size; rw [HSZ.out] at this; omega
  have HO2 := Lib.hid hO2; have HM2 := Lib.hid (HMA.out.trans hm2); have HQ0 := Lib.hid q0; have HPA := Lib.hid (hm2.cell HP0.out id)
  clear hO hO2 hM1 hm2 HA q0 HP0 hB HMA
  go_wp2_with fail
  rw [← HBE.out]
  generalize (wo.alloc (.cells #[.slice (some ⟨gp, 0, none⟩) rs.length cp] 33)) = w2 at *
  have HRP := Lib.hid (fun (W : World) (m : Mod (fun _ => False) w2 W) => refCheck_any rs _ W (HR0.out.mod0 (HM2.out.trans m)) hnn HSO.out)
  have HKP := Lib.hid (fun (W : World) (m : Mod (fun _ => False) w2 W) => L8.kept11_true rs _ _ gp cp ys W (HO2.out.mod m (fun _ _ => id)) (HR0.out.mod0 (HM2.out.trans m)) HSM.out)
  have HSS : Hid (∀ W, Mod (fun _ => False) w2 W → W.cell? ⟨w.heap.size, 0, none⟩ = some (.slice ad rs.length c) ∧ W.cell? ⟨B, 0, none⟩ = some (.slice (some ⟨gp, 0, none⟩) rs.length cp)) := fun W m => ⟨m.cell HPA.out id, m.cell HQ0.out id⟩
  generalize checkL rs = X at *
  obtain ⟨X1, X2⟩ := X
  refine HB.out.mono ?_
  rintro e w3 ⟨rfl, hM3⟩
  have HC := Lib.hid hM3; clear hM3 HB
  obtain ⟨t1, t2⟩ := HSS.out _ HC.out
  go_wp2_with fail
  refine (HRP.out _ HC.out).mono ?_
  rintro e w4 ⟨rfl, hM4⟩
  have HC2 := Lib.hid (HC.out.trans hM4); clear hM4 t1 t2
  obtain ⟨t1, t2⟩ := HSS.out _ HC2.out
  go_wp2_with (first
    | (go_at_call 22; refine (HN.out _ _).mono ?_; rintro e w' ⟨rfl, rfl⟩))
  refine (HKP.out _ HC2.out).mono ?_
  rintro e w5 ⟨rfl, hM5⟩
  have HC3 := Lib.hid (HC2.out.trans hM5); clear hM5 t1 t2
  go_wp2_with fail
  clear HC HRP
  have HAW := Lib.hid (fun W (m : Mod (fun _ => False) w W) => L11.awake11_true W (tabs_mod HT.out m))
  go_loopw [8] (fun iv wr => ∃ k : Nat, iv = .int .i64 k ∧ k ≤ rs.length ∧ Hid (Mod (fun _ => False) w2 wr)) (fun iv _ => rs.length - (intOf iv).toNat)
  case atStart => exact ⟨0, rfl, Nat.zero_le _, HC3⟩
  case round =>
    obtain ⟨k, rfl, hk, hM⟩ := hrel
    clear HC3
    obtain ⟨t1, t2⟩ := HSS.out _ hM.out
    by_cases hlt : k < rs.length
    · have hyl : ys.length = rs.length := by have := congrArg List.length HO2.out.hy; simpa using this
      have hky : k < ys.length := by omega
      obtain ⟨⟨sk, bk⟩, hx, hmem⟩ := xs_get HX.out hlt
      obtain ⟨bb, o, rfl, x0, x1, x2⟩ := rd_cellR (HR.out.mod (HM2.out.trans hM.out) (fun _ _ => id)) hx
      have hyr : ys[k].r = rs[k] := by
        have h1 : (ys.map L8.Yr.r)[k]? = some ys[k].r := by simp [hky]
        rw [HO2.out.hy, List.getElem?_eq_getElem hlt] at h1
        exact (Option.some.inj h1).symm
      have hyg : (ys.map L8.yV)[k]? = some (ys[k].r, .slice (some ⟨ys[k].gh, 0, none⟩) ys[k].r.head.terms.length ys[k].ch, .slice (some ⟨ys[k].gb, 0, none⟩) ys[k].r.body.length ys[k].cb) := by
        rw [List.getElem?_map, List.getElem?_eq_getElem hky]; rfl
      have HOr := Lib.hid (HO2.out.mod hM.out (fun _ _ => id))
      obtain ⟨b1, o1, e1, y0, y1, y2⟩ := rd_cellR HOr.out.at hyg
      cases e1
      simp only [Nat.zero_add] at y0 y1 y2
      have hok := HSO.out _ (List.getElem_mem hlt)
      have hoy : L8.OwnY wr ys[k] := HOr.out.each _ (List.getElem_mem hky)
      have HTS := Lib.hid ((HXT.out _ hmem).1.mod0 (HM2.out.trans hM.out))
      have HLS := Lib.hid ((HXT.out _ hmem).2.mod0 (HM2.out.trans hM.out))
      obtain ⟨⟨sa, sc, hsk, _⟩, ⟨ba, bc, _, hbk, _⟩⟩ := HXT.out _ hmem
      simp only at hsk hbk
      subst hsk hbk
      simp only at HTS HLS
      clear HOr hx hmem
      generalize ys[k] = y at *
      obtain ⟨yr, gh, ch, gb, cb, xs, ylo, yhi⟩ := y
      simp only at hyr y0 y1 y2 hyg
      unfold L8.OwnY at hoy
      simp only at hoy
      subst hyr
      clear hyg
      generalize rs[k] = t at *
      obtain ⟨⟨pr, hts⟩, ls⟩ := t
      simp only at x0 x1 x2 y0 y1 y2 HTS HLS
      have HOY := Lib.hid hoy; have HOK := Lib.hid hok
      have HXC := Lib.hid (And.intro x0 (And.intro x1 x2))
      have HS1 := Lib.hid (Safe_any ⟨⟨pr, hts⟩, ls⟩ _ _ wr HOY.out.head.at HOY.out.lsAt HOK.out.h0 HOK.out.b0 HOK.out.t0)
      have HS2 := Lib.hid (fun W (m : Mod (fun _ => False) wr W) => refSafe_any ⟨⟨pr, hts⟩, ls⟩ _ _ W (HTS.out.mod0 m) (HLS.out.mod0 m) HOK.out.h0 HOK.out.b0 HOK.out.t0)
      unfold rmV at HS1 HS2
      simp only at HS1 HS2
      generalize safeB ⟨⟨pr, hts⟩, ls⟩ = z at *
      obtain ⟨z1, z2, z3, z4⟩ := z
      unfold brV okBr at HS1 HS2
      simp only at HS1 HS2
      generalize decide (z1 = 0) = zb at *
      clear hoy hok x0 x1 x2
      go_wp2_with fail
      refine HS1.out.mono ?_
      rintro e v1 ⟨rfl, hV1⟩
      clear y0 y1 y2 t1 t2
      have hV1a : Mod (fun _ => False) wr (v1.alloc (.cells #[.int .i64 z1, .int .i64 z2, .int .i64 z3, .string z4] 59)) := hV1.alloc _
      obtain ⟨t1, t2⟩ := HSS.out _ (hM.out.trans hV1a)
      have x0 := hV1a.cell HXC.out.1 id
      have x1 := hV1a.cell HXC.out.2.1 id
      have x2 := hV1a.cell HXC.out.2.2 id
      have HB1 := Lib.hid (heap_alloc_new v1 (.cells #[.int .i64 z1, .int .i64 z2, .int .i64 z3, .string z4] 59))
      have HV1 := Lib.hid hV1a
      clear hV1 hV1a HS1
      go_wp2_with fail
      refine (HS2.out _ HV1.out).mono ?_
      rintro e v2 ⟨rfl, hV2⟩
      clear x0 x1 x2 t1 t2
      have hV2a : Mod (fun _ => False) (v1.alloc (.cells #[.int .i64 z1, .int .i64 z2, .int .i64 z3, .string z4] 59)) (v2.alloc (.cells #[.int .i64 z1, .int .i64 z2, .int .i64 z3, .string z4] 62)) := hV2.alloc _
      have hb1 := hV2a.at HB1.out id
      have hb2 := heap_alloc_new v2 (.cells #[.int .i64 z1, .int .i64 z2, .int .i64 z3, .string z4] 62)
      have a0 := cell_at (j := 0) hb1 rfl
      have a1 := cell_at (j := 1) hb1 rfl
      have a2 := cell_at (j := 2) hb1 rfl
      have a3 := cell_at (j := 3) hb1 rfl
      have b0 := cell_at (j := 0) hb2 rfl
      have b1 := cell_at (j := 1) hb2 rfl
      have b2 := cell_at (j := 2) hb2 rfl
      have b3 := cell_at (j := 3) hb2 rfl
      have HV2 := Lib.hid (hM.out.trans (HV1.out.trans hV2a))
      clear hV2 hV2a hb1 hb2 HS2
      go_wp2_with fail
      go_roundw
      case rel => exact ⟨k + 1, by go_num, hlt, HV2⟩
      case measure => simp [intOf]; omega
    · obtain rfl : k = rs.length := by omega
      go_wp2_with fail
      refine (HKP.out _ hM.out).mono ?_
      rintro e w6 ⟨rfl, hM6⟩
      have HM6 := Lib.hid (hM.out.trans hM6); clear hM6
      go_wp2_with fail
      refine (HAW.out _ (HM2.out.trans HM6.out)).mono ?_
      rintro e w7 ⟨rfl, hM7⟩
      have HM7 := Lib.hid (HM6.out.trans hM7); clear hM7
      go_wp2_with fail
      go_ret
      exact ⟨rfl, HM2.out.trans HM7.out⟩
end Go.Proofs.YteecbbnpgmceiaaDoor
