/-
  PrintTexts, walked: true for every program.
-/
import Derived.Test.YtgjcfoimfpeaeaaKeptP
import Derived.Test.YtgjcfoimfpeaeaaText2
import Derived.Test.YtgjcfoimfpeaeaaRefPrint3
namespace Go.Proofs.Ytgjcfoimfpeaeaa
open Go Go.RowKit Go.Mine
set_option linter.unusedVariables false
set_option maxHeartbeats 16000000
set_option maxRecDepth 100000

theorem num_any (x : Int) (w : World) : Calls Try.prog 7 #[.int .i64 x] w fun e w' => e = .returned (.int .i64 x) ∧ w = w' := by
  go_enter Try.func7, Try.ntmps7
  go_wp2_with fail
  go_ret
  exact ⟨rfl, rfl⟩
theorem OwnP.rsAt {w : World} {lo : Nat} {rs : List Rm} {gp cp : Nat} {ys : List Yr} (h : OwnP w lo rs gp cp ys) : RsAt w (.slice (some ⟨gp, 0, none⟩) rs.length cp) rs := by
  refine ⟨_, _, ys.map yV, rfl, ?_, h.at, ?_⟩
  · rw [← h.hy, List.map_map]; rfl
  · intro x hx
    obtain ⟨y, hy, rfl⟩ := List.mem_map.1 hx
    exact ⟨(h.each y hy).head.at, (h.each y hy).lsAt⟩

theorem PrintTexts_true (rs : List Rm) (v0 : Value) (w : World) (hr : RsAt w v0 rs) (hs : SmallPm rs) :
    Calls Try.prog 3 #[.agg #[v0]] w fun e w' => e = .returned (.bool true) ∧ Mod (fun _ => False) w w' := by
  obtain ⟨ad, c, xv, rfl, hx, hrx, hxt⟩ := id hr
  have hmA : Mod (fun _ => False) w (w.alloc (.cells #[.slice ad rs.length c] 24)) := (Mod.refl _ w).alloc _
  have p0 : (w.alloc (.cells #[.slice ad rs.length c] 24)).cell? ⟨w.heap.size, 0, none⟩ = some (.slice ad rs.length c) := cell_new rfl
  have hsz : (w.alloc (.cells #[.slice ad rs.length c] 24)).heap.size = w.heap.size + 1 := by simp
  have HA := Lib.hid (ownProgram_any rs _ _ (hr.mod0 hmA) hs)
  have HMA := Lib.hid hmA; have HR0 := Lib.hid hr; have HP0 := Lib.hid p0; have HSM := Lib.hid hs
  have HX := Lib.hid hx; have HR := Lib.hid hrx; have HXT := Lib.hid hxt
  clear hr hmA p0 hs hx hrx hxt
  go_enter Try.func3, Try.ntmps3
  go_wp2_with fail
  generalize (w.alloc (.cells #[.slice ad rs.length c] 24)) = wA at *
  refine HA.out.mono ?_
  rintro e wo ⟨gp, cp, ys, rfl, hO, hM1⟩
  have hm2 : Mod (fun _ => False) wA (wo.alloc (.cells #[.slice (some ⟨gp, 0, none⟩) rs.length cp] 24)) := hM1.alloc _
  have hO2 := hO.mod ((Mod.refl (fun _ => False) wo).alloc (.cells #[.slice (some ⟨gp, 0, none⟩) rs.length cp] 24)) (fun _ _ => id)
  have q0 : (wo.alloc (.cells #[.slice (some ⟨gp, 0, none⟩) rs.length cp] 24)).cell? ⟨wo.heap.size, 0, none⟩ = some (.slice (some ⟨gp, 0, none⟩) rs.length cp) := cell_new rfl
  have hB := Program_any rs _ _ HSM.out hO2.rsAt
  have HO2 := Lib.hid hO2; have HB := Lib.hid hB; have HM2 := Lib.hid hm2; have HQ0 := Lib.hid q0
  clear hO hO2 hB hM1 hm2 HA q0
  go_wp2_with fail
  generalize (wo.alloc (.cells #[.slice (some ⟨gp, 0, none⟩) rs.length cp] 24)) = w2 at *
  have HRP := Lib.hid (fun (w3 : World) (m : Mod (fun _ => False) w2 w3) => RefProgram_any rs _ w3 HSM.out (HR0.out.mod0 (HMA.out.trans (HM2.out.trans m))))
  generalize outP (mayPm rs) (pmT rs) = X at *
  obtain ⟨X1, X2⟩ := X
  unfold SayP at HB HRP
  simp only at HB HRP
  refine HB.out.mono ?_
  rintro e w3 ⟨rfl, hM3⟩
  have HM3 := Lib.hid hM3; clear hM3 HB
  have t0 := (HM2.out.trans HM3.out).cell HP0.out id
  go_wp2_with fail
  refine (HRP.out w3 HM3.out).mono ?_
  rintro e w4 ⟨rfl, hM4⟩
  have HM4 := Lib.hid (HM3.out.trans hM4); clear hM4 HRP HM3 t0
  have HN := Lib.hid (num_any X2)
  have t0 := (HM2.out.trans HM4.out).cell HP0.out id
  have t1 := HM4.out.cell HQ0.out id
  have HKP := Lib.hid (keptProgram_true rs _ (wA.heap.size + 2) gp cp ys w w4 (HMA.out.trans (HM2.out.trans HM4.out)) (by omega) (HO2.out.mod HM4.out (fun _ _ => id)) HR0.out HSM.out)
  clear HO2 HQ0
  go_wp2_with fail
  refine (HN.out _).mono ?_
  rintro e w5 ⟨rfl, rfl⟩
  go_wp2_with fail
  refine HKP.out.mono ?_
  rintro e w6 ⟨rfl, hM6⟩
  have HM6 : Hid (Mod (fun _ => False) wA w6) := Lib.hid ((HM2.out.trans HM4.out).step hM6 (fun i hi h => by omega))
  clear hM6 HKP HN t0 t1 HM2 HM4
  go_wp2_with fail
  go_loopw [8] (fun iv wr => ∃ k : Nat, iv = .int .i64 k ∧ k ≤ rs.length ∧ Hid (Mod (fun _ => False) wA wr)) (fun iv _ => rs.length - (intOf iv).toNat)
  case atStart => exact ⟨0, rfl, Nat.zero_le _, HM6⟩
  case round =>
    obtain ⟨k, rfl, hk, hM⟩ := hrel
    have t0 := hM.out.cell HP0.out id
    by_cases hlt : k < rs.length
    · have HMW : Hid (Mod (fun _ => False) w wr) := Lib.hid (HMA.out.trans hM.out)
      obtain ⟨⟨sk, bk⟩, hx, hmem⟩ := xs_get HX.out hlt
      obtain ⟨bb, o, rfl, x0, x1, x2⟩ := rd_cellR (HR.out.mod HMW.out (fun _ _ => id)) hx
      have hsm := HSM.out.2 _ (List.getElem_mem hlt)
      have HTS := Lib.hid ((HXT.out _ hmem).1.mod0 HMW.out)
      have HLS := Lib.hid ((HXT.out _ hmem).2.mod0 HMW.out)
      have hbb : bb < w.heap.size := by
        have := xs_get HX.out hlt
        obtain ⟨b', o', e', z0, _⟩ := rd_cellR HR.out hx
        cases e'
        exact World.block_lt_of_cell? w _ z0
      obtain ⟨sa, sc, hsk⟩ : ∃ sa sc, sk = .slice sa rs[k].head.terms.length sc := by obtain ⟨sa, sc, e, _⟩ := HTS.out; exact ⟨sa, sc, e⟩
      obtain ⟨ba, bc, hbk⟩ : ∃ sa sc, bk = .slice sa rs[k].body.length sc := by obtain ⟨sa, sc, _, e, _⟩ := HLS.out; exact ⟨sa, sc, e⟩
      clear hx hmem
      generalize rs[k] = t at *
      obtain ⟨⟨pr, hts⟩, ls⟩ := t
      simp only at hsk hbk x0 HTS HLS
      subst hsk hbk
      have HX0 := Lib.hid x0; have HX1 := Lib.hid x1; have HX2 := Lib.hid x2; have HT0 := Lib.hid t0
      have HSR := Lib.hid hsm
      have HOWN := Lib.hid (own_any ⟨⟨pr, hts⟩, ls⟩ _ _ wr HTS.out HLS.out hsm.1.2.1 hsm.2.1 (fun l hl => (hsm.2.2 l hl).1.2.1))
      unfold rmV at HOWN
      simp only at HOWN
      clear hsm
      go_wp2_with fail
      refine HOWN.out.mono ?_
      rintro e w1 ⟨gh, ch, gb, cb, xs, rfl, hY, hM1⟩
      simp only at hY ⊢
      clear HOWN t0 x0 x1 x2
      have hm1 : Mod (fun _ => False) wr (w1.alloc (.cells #[.string pr, .slice (some ⟨gh, 0, none⟩) hts.length ch, .slice (some ⟨gb, 0, none⟩) ls.length cb] 38)) := hM1.alloc _
      have hY1 := OwnR.mod hY ((Mod.refl (fun _ => False) w1).alloc (.cells #[.string pr, .slice (some ⟨gh, 0, none⟩) hts.length ch, .slice (some ⟨gb, 0, none⟩) ls.length cb] 38)) (fun _ _ => id)
      have hb1 : (w1.alloc (.cells #[.string pr, .slice (some ⟨gh, 0, none⟩) hts.length ch, .slice (some ⟨gb, 0, none⟩) ls.length cb] 38)).heap[w1.heap.size]? = some (.cells #[.string pr, .slice (some ⟨gh, 0, none⟩) hts.length ch, .slice (some ⟨gb, 0, none⟩) ls.length cb] 38 (0, 0)) := heap_alloc_new w1 _
      have hz1 : (w1.alloc (.cells #[.string pr, .slice (some ⟨gh, 0, none⟩) hts.length ch, .slice (some ⟨gb, 0, none⟩) ls.length cb] 38)).heap.size = w1.heap.size + 1 := by simp
      have hsz1 := hM1.size
      clear hY hM1
      go_wp2_with fail
      generalize (w1.alloc (.cells #[.string pr, .slice (some ⟨gh, 0, none⟩) hts.length ch, .slice (some ⟨gb, 0, none⟩) ls.length cb] 38)) = v1 at *
      have HPR := Lib.hid (Rule_any ⟨⟨pr, hts⟩, ls⟩ _ _ v1 HSR.out hY1.head.at hY1.lsAt)
      have HRR := Lib.hid (fun (w' : World) (m : Mod (fun _ => False) wr w') => RefRule_any ⟨⟨pr, hts⟩, ls⟩ _ _ w' HSR.out (HTS.out.mod0 m) (HLS.out.mod0 m))
      have HRA := Lib.hid (fun (w' : World) (m : Mod (fun _ => False) wr w') => RefAtom_any ⟨pr, hts⟩ _ w' HSR.out.1 (HTS.out.mod0 m))
      have HOA := Lib.hid (fun (w' : World) (m : Mod (fun _ => False) wr w') => ownAtom_any pr hts _ w' (HTS.out.mod0 m) HSR.out.1.2.1)
      have HPA := Lib.hid (fun (w' : World) (g c : Nat) (h : OwnT w' g c hts) => Atom_any ⟨pr, hts⟩ _ w' HSR.out.1 h.at)
      have HY1 := Lib.hid hY1; have HB1 := Lib.hid hb1; have HM1 := Lib.hid hm1
      clear hY1 hb1 hm1
      unfold rmV at HPR HRR
      unfold SayP at HPR HRR HRA HPA
      generalize outP (mayRm ⟨⟨pr, hts⟩, ls⟩) (rmT ⟨⟨pr, hts⟩, ls⟩) = R at *
      generalize outP (mayAm false ⟨pr, hts⟩) (amT ⟨pr, hts⟩) = A at *
      obtain ⟨R1, R2⟩ := R
      obtain ⟨A1, A2⟩ := A
      simp only at HPR HRR HRA HPA
      refine HPR.out.mono ?_
      rintro e v2 ⟨rfl, hM⟩
      have HV2 := Lib.hid hM; have HM2 := Lib.hid (HM1.out.trans hM)
      clear hM HPR
      have t0 := HM2.out.cell HT0.out id
      have x0 := HM2.out.cell HX0.out id; have x1 := HM2.out.cell HX1.out id; have x2 := HM2.out.cell HX2.out id
      go_wp2_with fail
      refine (HRR.out v2 HM2.out).mono ?_
      rintro e v3 ⟨rfl, hM⟩
      have HV3 := Lib.hid (HV2.out.trans hM); have HM3 := Lib.hid (HM2.out.trans hM)
      clear hM HRR t0 x0 x1 x2 HV2 HM2
      have t0 := HM3.out.cell HT0.out id
      have x0 := HM3.out.cell HX0.out id; have x1 := HM3.out.cell HX1.out id
      go_wp2_with fail
      refine (HOA.out v3 HM3.out).mono ?_
      rintro e v4 ⟨g, c9, rfl, hT, hg, hM⟩
      clear t0 x0 x1 HOA
      have hz4 := hM.size
      have hz3 := HV3.out.size
      have hm5 : Mod (fun _ => False) v1 (v4.alloc (.cells #[.string pr, .slice (some ⟨g, 0, none⟩) hts.length c9] 35)) := (HV3.out.trans hM).alloc _
      have hb5 : (v4.alloc (.cells #[.string pr, .slice (some ⟨g, 0, none⟩) hts.length c9] 35)).heap[v4.heap.size]? = some (.cells #[.string pr, .slice (some ⟨g, 0, none⟩) hts.length c9] 35 (0, 0)) := heap_alloc_new v4 _
      have hT5 := hT.mod ((Mod.refl (fun _ => False) v4).alloc (.cells #[.string pr, .slice (some ⟨g, 0, none⟩) hts.length c9] 35)) id
      clear hT hM
      go_wp2_with fail
      generalize (v4.alloc (.cells #[.string pr, .slice (some ⟨g, 0, none⟩) hts.length c9] 35)) = v5 at *
      have HV5 := Lib.hid hm5; have HB5 := Lib.hid hb5; have HT5 := Lib.hid hT5
      clear hm5 hb5 hT5 HV3 HM3
      refine (HPA.out v5 g c9 HT5.out).mono ?_
      rintro e v6 ⟨rfl, hM⟩
      have HV6 := Lib.hid hM; have HM6 := Lib.hid (HM1.out.trans (HV5.out.trans hM))
      clear hM HPA
      have t0 := HM6.out.cell HT0.out id
      have x0 := HM6.out.cell HX0.out id; have x1 := HM6.out.cell HX1.out id
      go_wp2_with fail
      refine (HRA.out v6 HM6.out).mono ?_
      rintro e v7 ⟨rfl, hM⟩
      have HV7 := Lib.hid (HV6.out.trans hM); have HM7 := Lib.hid (HM6.out.trans hM)
      clear hM HRA t0 x0 x1 HM6 HV6
      have HY7 := Lib.hid (OwnR.mod HY1.out (HV5.out.trans HV7.out) (fun _ _ => id))
      have HT7 := Lib.hid (HT5.out.mod HV7.out id)
      have t0 := HM7.out.cell HT0.out id
      have x0 := HM7.out.cell HX0.out id; have x1 := HM7.out.cell HX1.out id; have x2 := HM7.out.cell HX2.out id
      have r0 := cell_at (j := 0) ((HV5.out.trans HV7.out).at HB1.out id) rfl
      have r1 := cell_at (j := 1) ((HV5.out.trans HV7.out).at HB1.out id) rfl
      have r2 := cell_at (j := 2) ((HV5.out.trans HV7.out).at HB1.out id) rfl
      have a0 := cell_at (j := 0) (HV7.out.at HB5.out id) rfl
      have a1 := cell_at (j := 1) (HV7.out.at HB5.out id) rfl
      clear HB1 HB5 HT5 HY1
      have HD := Lib.hid ((Mod.refl (fun _ => False) v7).drew)
      have HNR := Lib.hid (num_any R2)
      have HNA := Lib.hid (num_any A2)
      have HKE := Lib.hid (kept_true _ ⟨⟨pr, hts⟩, ls⟩ _ _ gh ch gb cb xs v7.drew (OwnR.mod HY7.out HD.out (fun _ _ => id)) (HTS.out.mod0 (HM7.out.trans HD.out)) (HLS.out.mod0 (HM7.out.trans HD.out)) HSR.out.1.2.1 HSR.out.2.1 (fun l hl => (HSR.out.2.2 l hl).1.2.1))
      unfold rmV at HKE
      simp only at HKE
      have hszw := HMW.out.size
      have hsl : rs.length < 2 ^ 30 := HSM.out.1
      have hszA := hM.out.size
      go_wp2_with fail
      refine wp_region_ord (fun w' => (w'.cell? ⟨w.heap.size, 0, none⟩ = some (.slice (some ⟨bb, o, none⟩) rs.length c)) ∧ (w'.cell? ⟨w1.heap.size, 0, none⟩ = some (.string pr) ∧ w'.cell? ⟨w1.heap.size, 1, none⟩ = some (.slice (some ⟨gh, 0, none⟩) hts.length ch) ∧ w'.cell? ⟨w1.heap.size, 2, none⟩ = some (.slice (some ⟨gb, 0, none⟩) ls.length cb)) ∧ (w'.cell? ⟨bb, o + k * 3, none⟩ = some (.string pr) ∧ w'.cell? ⟨bb, o + k * 3 + 1, none⟩ = some (.slice sa hts.length sc) ∧ w'.cell? ⟨bb, o + k * 3 + 2, none⟩ = some (.slice ba ls.length bc)) ∧ (w'.cell? ⟨v4.heap.size, 0, none⟩ = some (.string pr) ∧ w'.cell? ⟨v4.heap.size, 1, none⟩ = some (.slice (some ⟨g, 0, none⟩) hts.length c9))) [(0, 0), (0, 1), (0, 2), (0, 3), (0, 4), (0, 6), (3, 5), (0, 7), (0, 8), (0, 9), (0, 10), (0, 11), (0, 12), (0, 13), (0, 14), (0, 15), (0, 17), (3, 16), (0, 18), (0, 19), (0, 20), (1, 21), (0, 22), (1, 23), (0, 24), (0, 25), (1, 26), (3, 27), (0, 28), (0, 29), (0, 30), (1, 31), (0, 32), (1, 33), (0, 34), (0, 35), (0, 36), (1, 37), (3, 38), (0, 39), (0, 40), (0, 41), (1, 42), (3, 43), (0, 44), (0, 45)] (by kernel_rfl) (by kernel_rfl) ?_
      go_wp2_with (first
        | (refine ord_pure rfl rfl rfl (fun K hK => ?_); go_big_quiet_op; refine hK _ ?_; clear hK K)
                        | (refine ord_skip rfl rfl ?_; simp only [Act.put, List.setIfInBounds_toArray, List.set_cons_zero, List.set_cons_succ])
                        | (refine ord_held rfl rfl rfl (⟨by simpa using t0, ⟨by simpa using r0, by simpa using r1, by simpa using r2⟩, ⟨by simpa using x0, by simpa using x1, by simpa using x2⟩, ⟨by simpa using a0, by simpa using a1⟩⟩) (fun K hK => ?_); apply Exists.intro; refine ⟨fun w' hs => ?_, hK _ ?_⟩; (revert hs; dsimp only; (try simp only [and_imp]); intros; go_simp; rfl); clear hK K)
                        | (refine ord_keep rfl rfl (⟨by simpa using t0, ⟨by simpa using r0, by simpa using r1, by simpa using r2⟩, ⟨by simpa using x0, by simpa using x1, by simpa using x2⟩, ⟨by simpa using a0, by simpa using a1⟩⟩) (fun K hK => ?_))
                        | (refine ord_drop rfl rfl (fun K hK => ?_))
                        | (refine ord_nil ?_))
      refine (HNR.out _).mono ?_
      rintro e v8 ⟨rfl, rfl⟩
      go_wp2_with (first
        | (refine ord_pure rfl rfl rfl (fun K hK => ?_); go_big_quiet_op; refine hK _ ?_; clear hK K)
                        | (refine ord_skip rfl rfl ?_; simp only [Act.put, List.setIfInBounds_toArray, List.set_cons_zero, List.set_cons_succ])
                        | (refine ord_held rfl rfl rfl (⟨by simpa using t0, ⟨by simpa using r0, by simpa using r1, by simpa using r2⟩, ⟨by simpa using x0, by simpa using x1, by simpa using x2⟩, ⟨by simpa using a0, by simpa using a1⟩⟩) (fun K hK => ?_); apply Exists.intro; refine ⟨fun w' hs => ?_, hK _ ?_⟩; (revert hs; dsimp only; (try simp only [and_imp]); intros; go_simp; rfl); clear hK K)
                        | (refine ord_keep rfl rfl (⟨by simpa using t0, ⟨by simpa using r0, by simpa using r1, by simpa using r2⟩, ⟨by simpa using x0, by simpa using x1, by simpa using x2⟩, ⟨by simpa using a0, by simpa using a1⟩⟩) (fun K hK => ?_))
                        | (refine ord_drop rfl rfl (fun K hK => ?_))
                        | (refine ord_nil ?_))
      refine (HNA.out _).mono ?_
      rintro e v8 ⟨rfl, rfl⟩
      go_wp2_with (first
        | (refine ord_pure rfl rfl rfl (fun K hK => ?_); go_big_quiet_op; refine hK _ ?_; clear hK K)
                        | (refine ord_skip rfl rfl ?_; simp only [Act.put, List.setIfInBounds_toArray, List.set_cons_zero, List.set_cons_succ])
                        | (refine ord_held rfl rfl rfl (⟨by simpa using t0, ⟨by simpa using r0, by simpa using r1, by simpa using r2⟩, ⟨by simpa using x0, by simpa using x1, by simpa using x2⟩, ⟨by simpa using a0, by simpa using a1⟩⟩) (fun K hK => ?_); apply Exists.intro; refine ⟨fun w' hs => ?_, hK _ ?_⟩; (revert hs; dsimp only; (try simp only [and_imp]); intros; go_simp; rfl); clear hK K)
                        | (refine ord_keep rfl rfl (⟨by simpa using t0, ⟨by simpa using r0, by simpa using r1, by simpa using r2⟩, ⟨by simpa using x0, by simpa using x1, by simpa using x2⟩, ⟨by simpa using a0, by simpa using a1⟩⟩) (fun K hK => ?_))
                        | (refine ord_drop rfl rfl (fun K hK => ?_))
                        | (refine ord_nil ?_))
      refine HKE.out.mono ?_
      rintro e v8 ⟨rfl, hM8⟩
      have t0 : v7.drew.cell? _ = _ := t0; have r0 : v7.drew.cell? _ = _ := r0; have r1 : v7.drew.cell? _ = _ := r1; have r2 : v7.drew.cell? _ = _ := r2; have x0 : v7.drew.cell? _ = _ := x0; have x1 : v7.drew.cell? _ = _ := x1; have x2 : v7.drew.cell? _ = _ := x2; have a0 : v7.drew.cell? _ = _ := a0; have a1 : v7.drew.cell? _ = _ := a1
      have t0' := hM8.cell t0 (fun h => by have := h.1; simp at this; omega)
      have r0' := hM8.cell r0 (fun h => by have := h.2; simp at this)
      have r1' := hM8.cell r1 (fun h => by have := h.2; simp at this)
      have r2' := hM8.cell r2 (fun h => by have := h.2; simp at this)
      have x0' := hM8.cell x0 (fun h => by have := h.1; simp at this; omega)
      have x1' := hM8.cell x1 (fun h => by have := h.1; simp at this; omega)
      have x2' := hM8.cell x2 (fun h => by have := h.1; simp at this; omega)
      have a0' := hM8.cell a0 (fun h => by have := h.2; simp at this; omega)
      have a1' := hM8.cell a1 (fun h => by have := h.2; simp at this; omega)
      clear t0 r0 r1 r2 x0 x1 x2 a0 a1
      have t0 := t0'; clear t0'
      have r0 := r0'; clear r0'
      have r1 := r1'; clear r1'
      have r2 := r2'; clear r2'
      have x0 := x0'; clear x0'
      have x1 := x1'; clear x1'
      have x2 := x2'; clear x2'
      have a0 := a0'; clear a0'
      have a1 := a1'; clear a1'
      have HT8 := Lib.hid ((HT7.out.mod HD.out id).mod hM8 (fun h => by omega))
      have HS8 := Lib.hid (HTS.out.mod0 ((HM7.out.trans HD.out).step hM8 (fun i hi h => by omega)))
      have HW8 := Lib.hid ((hM.out.trans (HM7.out.trans HD.out)).step hM8 (fun i hi h => by omega))
      have HSA := Lib.hid (SameAtom_true pr hts _ _ v8 HT8.out.at HS8.out HSR.out.1.2.1)
      clear hM8 HKE HNR HNA HD
      go_wp2_with (first
        | (refine ord_pure rfl rfl rfl (fun K hK => ?_); go_big_quiet_op; refine hK _ ?_; clear hK K)
                        | (refine ord_skip rfl rfl ?_; simp only [Act.put, List.setIfInBounds_toArray, List.set_cons_zero, List.set_cons_succ])
                        | (refine ord_held rfl rfl rfl (⟨by simpa using t0, ⟨by simpa using r0, by simpa using r1, by simpa using r2⟩, ⟨by simpa using x0, by simpa using x1, by simpa using x2⟩, ⟨by simpa using a0, by simpa using a1⟩⟩) (fun K hK => ?_); apply Exists.intro; refine ⟨fun w' hs => ?_, hK _ ?_⟩; (revert hs; dsimp only; (try simp only [and_imp]); intros; go_simp; rfl); clear hK K)
                        | (refine ord_keep rfl rfl (⟨by simpa using t0, ⟨by simpa using r0, by simpa using r1, by simpa using r2⟩, ⟨by simpa using x0, by simpa using x1, by simpa using x2⟩, ⟨by simpa using a0, by simpa using a1⟩⟩) (fun K hK => ?_))
                        | (refine ord_drop rfl rfl (fun K hK => ?_))
                        | (refine ord_nil ?_))
      refine HSA.out.mono ?_
      rintro e v9 ⟨rfl, hM9⟩
      have t0' := hM9.cell t0 (id)
      have r0' := hM9.cell r0 (id)
      have r1' := hM9.cell r1 (id)
      have r2' := hM9.cell r2 (id)
      have x0' := hM9.cell x0 (id)
      have x1' := hM9.cell x1 (id)
      have x2' := hM9.cell x2 (id)
      have a0' := hM9.cell a0 (id)
      have a1' := hM9.cell a1 (id)
      clear t0 r0 r1 r2 x0 x1 x2 a0 a1
      have t0 := t0'; clear t0'
      have r0 := r0'; clear r0'
      have r1 := r1'; clear r1'
      have r2 := r2'; clear r2'
      have x0 := x0'; clear x0'
      have x1 := x1'; clear x1'
      have x2 := x2'; clear x2'
      have a0 := a0'; clear a0'
      have a1 := a1'; clear a1'
      have HW9 := Lib.hid (HW8.out.trans hM9)
      have HMK := Lib.hid (marked_true pr hts g c9 v9 (HT8.out.mod hM9 id) HSR.out.1.2.1)
      clear hM9 HSA HT8 HS8 HW8
      go_wp2_with (first
        | (refine ord_pure rfl rfl rfl (fun K hK => ?_); go_big_quiet_op; refine hK _ ?_; clear hK K)
                        | (refine ord_skip rfl rfl ?_; simp only [Act.put, List.setIfInBounds_toArray, List.set_cons_zero, List.set_cons_succ])
                        | (refine ord_held rfl rfl rfl (⟨by simpa using t0, ⟨by simpa using r0, by simpa using r1, by simpa using r2⟩, ⟨by simpa using x0, by simpa using x1, by simpa using x2⟩, ⟨by simpa using a0, by simpa using a1⟩⟩) (fun K hK => ?_); apply Exists.intro; refine ⟨fun w' hs => ?_, hK _ ?_⟩; (revert hs; dsimp only; (try simp only [and_imp]); intros; go_simp; rfl); clear hK K)
                        | (refine ord_keep rfl rfl (⟨by simpa using t0, ⟨by simpa using r0, by simpa using r1, by simpa using r2⟩, ⟨by simpa using x0, by simpa using x1, by simpa using x2⟩, ⟨by simpa using a0, by simpa using a1⟩⟩) (fun K hK => ?_))
                        | (refine ord_drop rfl rfl (fun K hK => ?_))
                        | (refine ord_nil ?_))
      refine HMK.out.mono ?_
      rintro e v10 ⟨rfl, hM10⟩
      have HW10 := Lib.hid (HW9.out.trans hM10)
      clear hM10 HMK HW9
      go_wp2_with (first
        | (refine ord_pure rfl rfl rfl (fun K hK => ?_); go_big_quiet_op; refine hK _ ?_; clear hK K)
                        | (refine ord_skip rfl rfl ?_; simp only [Act.put, List.setIfInBounds_toArray, List.set_cons_zero, List.set_cons_succ])
                        | (refine ord_held rfl rfl rfl (⟨by simpa using t0, ⟨by simpa using r0, by simpa using r1, by simpa using r2⟩, ⟨by simpa using x0, by simpa using x1, by simpa using x2⟩, ⟨by simpa using a0, by simpa using a1⟩⟩) (fun K hK => ?_); apply Exists.intro; refine ⟨fun w' hs => ?_, hK _ ?_⟩; (revert hs; dsimp only; (try simp only [and_imp]); intros; go_simp; rfl); clear hK K)
                        | (refine ord_keep rfl rfl (⟨by simpa using t0, ⟨by simpa using r0, by simpa using r1, by simpa using r2⟩, ⟨by simpa using x0, by simpa using x1, by simpa using x2⟩, ⟨by simpa using a0, by simpa using a1⟩⟩) (fun K hK => ?_))
                        | (refine ord_drop rfl rfl (fun K hK => ?_))
                        | (refine ord_nil ?_))
      go_roundw
      case rel => exact ⟨k + 1, by go_num, hlt, HW10⟩
      case measure => simp [intOf]; omega
    · obtain rfl : k = rs.length := by omega
      go_wp2_with fail
      go_ret
      exact ⟨rfl, HMA.out.trans hM.out⟩
end Go.Proofs.Ytgjcfoimfpeaeaa
