/- SchemaArities answers true of every program and every relations of bulk at most 1048576, where the tables of utf8 lie. -/
import Derived.Test.YteecbbnpgmceiaaGreatDoorSAr1
namespace Go.Proofs.YteecbbnpgmceiaaGreatDoor
open Go Go.RowKit Go.Mine
set_option maxHeartbeats 8000000
set_option maxRecDepth 100000
set_option linter.unusedVariables false

theorem schArities_walk (rs : List Rm) (v0 : Value) (ls : List Re) (la : Option Addr) (lc : Nat) (w : World) (hr : RsAt w v0 rs) (hs : SmallPm rs) (hso : ∀ r ∈ rs, SchOk r) (hn : rs.length ≤ 2 ^ 20)
    (hl : Rd w la (resC ls)) (hln : ls.length ≤ 2 ^ 20) (hlq : ∀ x ∈ ls, x.1.size ≤ 2 ^ 20 ∧ In64 x.2.1) (hT : Lib.Utf8Tabs 1 2 w) :
    Calls Tryz.prog 5 #[.agg #[v0], .slice la ls.length lc] w fun e w' => e = .returned (.bool true) ∧ Mod (fun _ => False) w w' := by
  obtain ⟨ad, c, xv, rfl, hx, hrx, hxt⟩ := id hr
  have hmA : Mod (fun _ => False) w (w.alloc (.cells #[.slice ad rs.length c] 24)) := (Mod.refl _ w).alloc _
  have p0 : (w.alloc (.cells #[.slice ad rs.length c] 24)).cell? ⟨w.heap.size, 0, none⟩ = some (.slice ad rs.length c) := cell_new rfl
  have hsz : (w.alloc (.cells #[.slice ad rs.length c] 24)).heap.size = w.heap.size + 1 := by simp
  have HA := Lib.hid (L8.lent11_any rs _ _ (hr.mod0 hmA) hs)
  have hU := usesAll_le hso hn
  have HMA := Lib.hid hmA; have HR0 := Lib.hid hr; have HP0 := Lib.hid p0; have HSM := Lib.hid hs; have HSO := Lib.hid hso; have HLR := Lib.hid hl; have HLQ := Lib.hid hlq; have HU := Lib.hid hU
  have HT := Lib.hid hT
  have HSZ := Lib.hid hsz
  have HN := Lib.hid L11.num_any
  clear hr hmA p0 hs hx hrx hxt hT hsz hso hl hlq hU
  go_enter Tryz.func5, Tryz.ntmps5
  go_wp2_with fail
  generalize (w.alloc (.cells #[.slice ad rs.length c] 24)) = wA at *
  refine HA.out.mono ?_
  rintro e wo ⟨gp, cp, ys, rfl, hO, hM1⟩
  have hm2 : Mod (fun _ => False) wA (wo.alloc (.cells #[.slice (some ⟨gp, 0, none⟩) rs.length cp] 24)) := hM1.alloc _
  have hO2 := hO.mod ((Mod.refl (fun _ => False) wo).alloc (.cells #[.slice (some ⟨gp, 0, none⟩) rs.length cp] 24)) (fun _ _ => id)
  have q0 : (wo.alloc (.cells #[.slice (some ⟨gp, 0, none⟩) rs.length cp] 24)).cell? ⟨wo.heap.size, 0, none⟩ = some (.slice (some ⟨gp, 0, none⟩) rs.length cp) := cell_new rfl
  obtain ⟨B, hB⟩ : ∃ B, B = wo.heap.size := ⟨_, rfl⟩
  rw [← hB] at q0
  have HBE := Lib.hid hB
  have HO2 := Lib.hid hO2; have HM2 := Lib.hid (HMA.out.trans hm2); have HQ0 := Lib.hid q0; have HPA := Lib.hid (hm2.cell HP0.out id)
  clear hO hO2 hM1 hm2 HA q0 HP0 hB HMA
  -- the relations, copied, a mark behind them
  have HSRC := Lib.hid (fun (W : World) (m : Mod (fun _ => False) w W) => Src.ofRd tiRe.ht ls.length lc (HLR.out.mod m (fun _ _ => id)) (by rw [resC_length]) (resC_one ls))
  have HMK : Hid (∀ (W : World) (a : Option Addr) (n c : Nat) (xs : List Value), n ≤ c → (Instr.slice 57 (.slice a (n + 1) c) none (some (.int .i64 n)) none).run Tryz.prog W = .ok (.slice a n c) W) := fun W a n c xs h => run_slice_hi' tiRe a (n + 1) c n h W
  go_upto_region 6 with (first
    | (at_builtin; refine wpL_append0 rfl (.tmp 35) (.tmp 36) 57 57 rfl tiRe rfl rfl (HSRC.out _ HM2.out) (by omega) (by unfold maxLen; omega) ?_; intro ra rc w3 hO3 hM3 hF3 _; have HO3 := Lib.hid hO3; have HM3 := Lib.hid hM3; have HF3 := Lib.hid hF3; clear hO3 hM3 hF3)
    | (at_builtin; refine wpL_appendN (us := [.string ⟨#[109, 97, 114, 107]⟩, .int .i64 0, .slice none 0 0]) rfl (.tmp 38) (.tmp 40) 57 rfl tiRe rfl HO3.out rfl rfl rfl (by omega) (by unfold maxLen; omega) ?_; intro r2 rc2 w4 hO4 hG4 _
       have hle : ls.length + 1 ≤ rc2 := by
         rcases hO4.2 with ⟨_, h1, _⟩ | ⟨_, _, _, _, h1, _⟩
         · omega
         · exact h1
       have hsl := HMK.out w4 r2 ls.length rc2 [] (by omega)
       have HO4 := Lib.hid hO4; have HG4 := Lib.hid hG4; have HLE := Lib.hid hle; clear hO4 hG4 hle))
  rw [← HBE.out]
  obtain ⟨w2, hw2⟩ : ∃ v, v = wo.alloc (.cells #[.slice (some ⟨gp, 0, none⟩) rs.length cp] 24) := ⟨_, rfl⟩
  rw [← hw2] at HM2 HO2 HQ0 HPA HM3 HF3
  clear hw2
  have hm4 : Mod (fun _ => False) w2 w4 := HM3.out.step HG4.out.mod (fun i hi e => by have := HF3.out i e; omega)
  have hob0 : Obs w2.heap.size w4 [oR r2 (ls.length + 1) rc2 (ls ++ [(⟨#[109, 97, 114, 107]⟩, 0, none, 0, 0)])] := by
    refine Obs.push (Obs.nil w2) hm4 (o := oR r2 (ls.length + 1) rc2 (ls ++ [(⟨#[109, 97, 114, 107]⟩, 0, none, 0, 0)])) (.inl ?_) (fun b hb => ?_)
    · show Mine.Own w4 _ 3 r2 (ls.length + 1) rc2 (resC (ls ++ [(⟨#[109, 97, 114, 107]⟩, 0, none, 0, 0)]))
      rw [resC_append]; exact HO4.out
    · rcases HG4.out.pos with e | ⟨g, e, hg⟩
      · exact HF3.out b (by rw [← e]; exact hb)
      · have hb2 : blk r2 = some b := hb
        rw [e] at hb2; cases hb2; exact Nat.le_trans HM3.out.size hg
  have HOB0 := Lib.hid hob0; have HM4 := Lib.hid hm4
  have HSS : Hid (∀ W, Mod (fun _ => False) w2 W → W.cell? ⟨w.heap.size, 0, none⟩ = some (.slice ad rs.length c) ∧ W.cell? ⟨B, 0, none⟩ = some (.slice (some ⟨gp, 0, none⟩) rs.length cp)) := fun W m => ⟨m.cell HPA.out id, m.cell HQ0.out id⟩
  have HWI : Hid (∀ (W : World) (rels : List Re) (a : Option Addr) (k : Nat), Mod (fun _ => False) w2 W → Rd W a (resC rels) → rels.length ≤ 2 ^ 40 → (∀ x ∈ rels, x.1.size ≤ maxLen ∧ In64 x.2.1) →
      Calls Tryz.prog 25 #[.agg #[.slice (some ⟨gp, 0, none⟩) rs.length cp], .slice a rels.length k] W fun e w' => (∃ a, e = .returned (.tuple #[.slice a (psOf (withL rs (relZ rels))).length (psOf (withL rs (relZ rels))).length, .int .i64 (ffOf (withL rs (relZ rels)))]) ∧ ObAt w' (oP a (psOf (withL rs (relZ rels))).length (psOf (withL rs (relZ rels))).length (psOf (withL rs (relZ rels)))) ∧ ∀ b, blk a = some b → W.heap.size ≤ b) ∧ Mod (fun _ => False) W w') :=
    fun W rels a k m h1 h2 h3 => (With_any rs _ rels a k W (HO2.out.mod m (fun _ _ => id)).rsAt hn (fun r hr => (HSO.out r hr).u) HU.out h1 h2 h3).mono fun e w' ⟨h, hm⟩ => ⟨h.ob, hm⟩
  have HRW : Hid (∀ (W : World) (rels : List Re) (a : Option Addr) (k : Nat), Mod (fun _ => False) w2 W → Rd W a (resC rels) → rels.length ≤ 2 ^ 40 →
      Calls Tryz.prog 26 #[.agg #[.slice ad rs.length c], .slice a rels.length k] W fun e w' => (∃ a c, e = .returned (.tuple #[.slice a (psOf (withL rs (relZ rels))).length c, .int .i64 (ffOf (withL rs (relZ rels)))]) ∧ ObAt w' (oD a (psOf (withL rs (relZ rels))).length c (psOf (withL rs (relZ rels)))) ∧ ∀ b, blk a = some b → W.heap.size ≤ b) ∧ Mod (fun _ => False) W w') :=
    fun W rels a k m h1 h2 => (refWith_any rs _ rels a k W (HR0.out.mod0 (HM2.out.trans m)) hn HSO.out HU.out h1 h2).mono fun e w' ⟨h, hm⟩ => ⟨h.ob, hm⟩
  have HAI : Hid (∀ (W : World), Mod (fun _ => False) w2 W →
      Calls Tryz.prog 30 #[.agg #[.slice (some ⟨gp, 0, none⟩) rs.length cp]] W fun e w' => (∃ a, e = .returned (.tuple #[.slice a (psOf (withL rs [])).length (psOf (withL rs [])).length, .int .i64 (ffOf (withL rs []))]) ∧ ObAt w' (oP a (psOf (withL rs [])).length (psOf (withL rs [])).length (psOf (withL rs []))) ∧ ∀ b, blk a = some b → W.heap.size ≤ b) ∧ Mod (fun _ => False) W w') :=
    fun W m => (Arities_any rs _ W (HO2.out.mod m (fun _ _ => id)).rsAt hn (fun r hr => (HSO.out r hr).u) HU.out).mono fun e w' ⟨h, hm⟩ => ⟨h.ob, hm⟩
  have HRA : Hid (∀ (W : World), Mod (fun _ => False) w2 W →
      Calls Tryz.prog 31 #[.agg #[.slice ad rs.length c]] W fun e w' => (∃ a c, e = .returned (.tuple #[.slice a (psOf (withL rs [])).length c, .int .i64 (ffOf (withL rs []))]) ∧ ObAt w' (oD a (psOf (withL rs [])).length c (psOf (withL rs []))) ∧ ∀ b, blk a = some b → W.heap.size ≤ b) ∧ Mod (fun _ => False) W w') :=
    fun W m => (refArities_any rs _ W (HR0.out.mod0 (HM2.out.trans m)) hn HSO.out HU.out).mono fun e w' ⟨h, hm⟩ => ⟨h.ob, hm⟩
  have HKP := Lib.hid (fun (W : World) (m : Mod (fun _ => False) w2 W) => L8.kept11_true rs _ _ gp cp ys W (HO2.out.mod m (fun _ _ => id)) (HR0.out.mod0 (HM2.out.trans m)) HSM.out)
  have HAW := Lib.hid (fun W (m : Mod (fun _ => False) w2 W) => L11.awake11_true W (tabs_mod HT.out (HM2.out.trans m)))
  have HLL := Lib.hid (fun W (m : Mod (fun _ => False) w2 W) => HLR.out.mod (HM2.out.trans m) (fun _ _ => id))
  have HQQ : Hid (∀ x ∈ ls, x.1.size ≤ maxLen ∧ In64 x.2.1) := fun x hx => ⟨by have := (HLQ.out x hx).1; unfold maxLen; omega, (HLQ.out x hx).2⟩
  have hpl : (psOf (withL rs (relZ ls))).length ≤ 2 ^ 41 + 2 ^ 20 := ps_le _ fun ps h => by
    have h1 := withR_len h
    have h2 := HU.out
    unfold relZ at h1; rw [List.length_map] at h1; omega
  have hql : (psOf (withL rs [])).length ≤ 2 ^ 41 := ps_le _ fun ps h => by
    have h1 := withR_len h
    have h2 := HU.out
    simp only [List.length_nil] at h1; omega
  clear hob0 hm4 HO3 HM3 HF3 HO4 HG4 HLE HMK HSRC HO2 HQ0 HPA HR0 hsl
  -- a, b, want
  have h1 := HWI.out w4 ls r2 rc2 HM4.out (oR_rd (HOB0.out.get (i := 0) rfl)) (by omega) HQQ.out
  have HC1 := Lib.hid h1
  obtain ⟨t0, t1⟩ := HSS.out _ HM4.out
  clear h1
  generalize hR1 : withL rs (relZ ls) = R1 at *
  go_wp2_with fail
  refine HC1.out.mono ?_
  rintro e w5 ⟨⟨aa, rfl, hA5, hF5⟩, hM5⟩
  have HOB1 := Lib.hid (HOB0.out.push hM5 hA5 hF5)
  have HM5 := Lib.hid (HM4.out.trans hM5)
  clear hA5 hF5 hM5 HC1 t0 t1 HOB0 HM4
  obtain ⟨t0, t1⟩ := HSS.out _ HM5.out
  have h1 := HWI.out w5 ls r2 rc2 HM5.out (oR_rd (HOB1.out.get (i := 0) rfl)) (by omega) HQQ.out
  rw [hR1] at h1
  have HC1 := Lib.hid h1
  clear h1
  go_wp2_with fail
  refine HC1.out.mono ?_
  rintro e w6 ⟨⟨ba, rfl, hA6, hF6⟩, hM6⟩
  have HOB2 := Lib.hid (HOB1.out.push hM6 hA6 hF6)
  have HM6 := Lib.hid (HM5.out.trans hM6)
  clear hA6 hF6 hM6 HC1 t0 t1 HOB1 HM5
  obtain ⟨t0, t1⟩ := HSS.out _ HM6.out
  have h1 := HRW.out w6 ls la lc HM6.out (HLL.out _ HM6.out) (by omega)
  rw [hR1] at h1
  have HC1 := Lib.hid h1
  have HR1 := Lib.hid hR1
  clear h1 hR1
  go_wp2_with fail
  refine HC1.out.mono ?_
  rintro e w7 ⟨⟨wa, wc, rfl, hA7, hF7⟩, hM7⟩
  have HOB3 := Lib.hid (HOB2.out.push hM7 hA7 hF7)
  have HM7 := Lib.hid (HM6.out.trans hM7)
  clear hA7 hF7 hM7 HC1 t0 t1 HOB2 HM6
  generalize psOf R1 = ps at *
  generalize ffOf R1 = ff at *
  have HP1 := Lib.hid (fun W (m : Mod (fun _ => False) w7 W) => preds_true ps aa wa ps.length wc W (((HOB3.out.mod0 m).get (i := 1) rfl).rd) (((HOB3.out.mod0 m).get (i := 3) rfl).rd) (by omega))
  have HP2 := Lib.hid (fun W (m : Mod (fun _ => False) w7 W) => preds_true ps ba wa ps.length wc W (((HOB3.out.mod0 m).get (i := 2) rfl).rd) (((HOB3.out.mod0 m).get (i := 3) rfl).rd) (by omega))
  go_wp2_with (first
    | (go_at_call 27; refine (HN.out _ _).mono ?_; rintro e w' ⟨rfl, rfl⟩))
  refine (HP1.out _ (Mod.refl _ _)).mono ?_
  rintro e w8 ⟨rfl, hM8⟩
  have HM8 := Lib.hid hM8
  clear hM8 HP1
  go_wp2_with fail
  refine (HP2.out _ HM8.out).mono ?_
  rintro e w9 ⟨rfl, hM9⟩
  have HM9 := Lib.hid (HM8.out.trans hM9)
  clear hM9 HP2 HM8
  obtain ⟨t0, t1⟩ := HSS.out _ (HM7.out.trans HM9.out)
  go_wp2_with fail
  refine (HKP.out _ (HM7.out.trans HM9.out)).mono ?_
  rintro e w10 ⟨rfl, hM10⟩
  have HM10 := Lib.hid (HM9.out.trans hM10)
  clear hM10 HM9 t0 t1
  have HOB4 := Lib.hid (HOB3.out.mod0 HM10.out)
  have HM11 := Lib.hid (HM7.out.trans HM10.out)
  clear HOB3 HM10 HM7
  obtain ⟨rb, hrb⟩ := (HOB4.out.get (i := 0) rfl).atHead (by simp)
  simp only at hrb
  subst hrb
  have hmk : w10.cell? ⟨rb, ls.length * 3, none⟩ = some (.string ⟨#[109, 97, 114, 107]⟩) := by
    obtain ⟨b, o, e, hc⟩ := (HOB4.out.get (i := 0) rfl).rd (ls.length * 3) (.string ⟨#[109, 97, 114, 107]⟩) (by
      show (resC (ls ++ [(⟨#[109, 97, 114, 107]⟩, 0, none, 0, 0)]))[ls.length * 3]? = _
      rw [resC_append, List.getElem?_append_right (by rw [resC_length]; omega), resC_length, Nat.sub_self]; rfl)
    cases e
    simpa using hc
  go_wp2_with fail
  clear hmk
  obtain ⟨u1, hu1⟩ : ∃ u, u = w10 := ⟨_, rfl⟩
  rw [← hu1] at HOB4 HM11 ⊢
  clear hu1
  -- the relations as they were
  go_loopw [14] (fun iv wr => ∃ i : Nat, iv = .int .i64 i ∧ i ≤ ls.length ∧ Hid (Mod (fun _ => False) u1 wr)) (fun iv _ => ls.length - (intOf iv).toNat)
  case atStart => exact ⟨0, rfl, Nat.zero_le _, Lib.hid (Mod.refl _ _)⟩
  case round =>
    obtain ⟨i, rfl, hi, hM⟩ := hrel
    by_cases hlt : i < ls.length
    · obtain ⟨b1, o1, e, x0, x1, x2⟩ := rd_cellE (oR_rd ((HOB4.out.mod0 hM.out).get (i := 0) rfl)) hlt
      cases e
      obtain ⟨b2, o2, rfl, y0, y1, y2⟩ := rd_cellE (HLL.out _ (HM11.out.trans hM.out)) hlt
      generalize ls[i] = t at *
      obtain ⟨tn, ta, v1, v2, v3⟩ := t
      simp only [Nat.zero_add] at x0 x1 x2 y0 y1 y2
      go_wp2_with fail
      refine wp_region_ord (fun W => (W.cell? ⟨rb, i * 3, none⟩ = some (.string tn) ∧ W.cell? ⟨rb, i * 3 + 1, none⟩ = some (.int .i64 ta) ∧ W.cell? ⟨rb, i * 3 + 2, none⟩ = some (.slice v1 v2 v3)) ∧ (W.cell? ⟨b2, o2 + i * 3, none⟩ = some (.string tn) ∧ W.cell? ⟨b2, o2 + i * 3 + 1, none⟩ = some (.int .i64 ta) ∧ W.cell? ⟨b2, o2 + i * 3 + 2, none⟩ = some (.slice v1 v2 v3))) [(0, 0), (0, 1), (0, 2), (0, 3), (1, 4), (0, 5), (0, 6), (0, 7), (0, 8), (1, 9), (0, 10), (0, 11), (0, 12), (0, 13), (0, 14), (0, 15), (1, 16), (0, 17), (0, 18), (0, 19), (0, 20), (1, 21), (0, 22), (0, 23), (0, 24), (0, 25), (0, 26), (0, 27), (0, 28), (1, 29), (0, 30), (0, 31), (0, 32), (0, 33), (0, 34), (1, 35), (0, 36), (0, 37), (0, 38)] (by kernel_rfl) (by kernel_rfl) ?_
      go_wp2_with (first
        | (refine ord_pure rfl rfl rfl (fun K hK => ?_); go_big_quiet_op; refine hK _ ?_; clear hK K)
                                                                | (refine ord_skip rfl rfl ?_; simp only [Act.put, List.setIfInBounds_toArray, List.set_cons_zero, List.set_cons_succ])
                                                                | (refine ord_held rfl rfl rfl (⟨⟨x0, x1, x2⟩, ⟨y0, y1, y2⟩⟩) (fun K hK => ?_); apply Exists.intro; refine ⟨fun w' hs => ?_, hK _ ?_⟩; (revert hs; dsimp only; (try simp only [and_imp]); intros; go_simp; rfl); clear hK K)
                                                                | (refine ord_keep rfl rfl (⟨⟨x0, x1, x2⟩, ⟨y0, y1, y2⟩⟩) (fun K hK => ?_))
                                                                | (refine ord_drop rfl rfl (fun K hK => ?_))
                                                                | (refine ord_nil ?_))
      go_roundw
      case rel => exact ⟨i + 1, by go_num, hlt, Lib.hid hM.out.drew⟩
      case measure => simp [intOf]; omega
    · obtain rfl : i = ls.length := by omega
      obtain ⟨u2, hu2⟩ : ∃ u, u = wr := ⟨_, rfl⟩
      have HOB5 := Lib.hid (HOB4.out.mod0 hM.out)
      have HM12 := Lib.hid (HM11.out.trans hM.out)
      rw [← hu2] at HOB5 HM12 ⊢
      clear hu2 hM HOB4 HM11 hi hlt
      go_wp2_with fail
      -- a, written over
      go_loopw [15] (fun iv wr => ∃ i : Nat, iv = .int .i64 i ∧ i ≤ ps.length ∧ Hid (Obs w2.heap.size wr [oR (some ⟨rb, 0, none⟩) (ls.length + 1) rc2 (ls ++ [(⟨#[109, 97, 114, 107]⟩, 0, none, 0, 0)]), oP aa ps.length ps.length (SPf f1 ps i), oP ba ps.length ps.length ps, oD wa ps.length wc ps]) ∧ Hid (Mod (fun _ => False) w2 wr)) (fun iv _ => ps.length - (intOf iv).toNat)
      case atStart => exact ⟨0, rfl, Nat.zero_le _, Lib.hid (by rw [SPf_zero]; exact HOB5.out), HM12⟩
      case round =>
        obtain ⟨i, rfl, hi, hO, hM⟩ := hrel
        clear HOB5 HM12
        by_cases hlt : i < ps.length
        · obtain ⟨ab, hab⟩ := (hO.out.get (i := 1) rfl).atHead (by show ps.length ≠ 0; omega)
          simp only at hab
          subst hab
          have hsl := SPf_len f1 (Nat.le_of_lt hlt)
          obtain ⟨c0, c1, c2, x0, x1, x2⟩ := pz_cells (show Rd wr (some ⟨ab, 0, none⟩) (pzsC (SPf f1 ps i)) from (hO.out.get (i := 1) rfl).rd) (i := i) (by omega)
          have f0 := (hO.out.get (i := 1) rfl).frozen (b := ab) (j := i * 3) rfl
          have f1' := (hO.out.get (i := 1) rfl).frozen (b := ab) (j := i * 3 + 1) rfl
          have f2' := (hO.out.get (i := 1) rfl).frozen (b := ab) (j := i * 3 + 2) rfl
          have HOS : Hid (Obs w2.heap.size (((wr.setCell ⟨ab, i * 3, none⟩ (.string ⟨#[115, 112, 111, 105, 108, 116]⟩)).setCell ⟨ab, i * 3 + 1, none⟩ (.int .i64 i)).setCell ⟨ab, i * 3 + 2, none⟩ (.int .i64 0)) [oR (some ⟨rb, 0, none⟩) (ls.length + 1) rc2 (ls ++ [(⟨#[109, 97, 114, 107]⟩, 0, none, 0, 0)]), oP (some ⟨ab, 0, none⟩) ps.length ps.length (SPf f1 ps (i + 1)), oP ba ps.length ps.length ps, oD wa ps.length wc ps]) := Lib.hid (by
            have h := ((hO.out.store (i := 1) rfl rfl (i * 3) (.string ⟨#[115, 112, 111, 105, 108, 116]⟩)).store (i := 1) rfl rfl (i * 3 + 1) (.int .i64 i)).store (i := 1) rfl rfl (i * 3 + 2) (.int .i64 0)
            have e := pzs_set3 (L := SPf f1 ps i) (i := i) (by omega) ⟨#[115, 112, 111, 105, 108, 116]⟩ (i : Int) 0
            have e2 : (SPf f1 ps i).set i (⟨#[115, 112, 111, 105, 108, 116]⟩, (i : Int), 0) = SPf f1 ps (i + 1) := SPf_step f1 hlt
            rw [e2] at e
            unfold oP
            rw [← e]
            exact h)
          have hms : Mod (fun b => blk (some (⟨ab, 0, none⟩ : Addr)) = some b) wr (((wr.setCell ⟨ab, i * 3, none⟩ (.string ⟨#[115, 112, 111, 105, 108, 116]⟩)).setCell ⟨ab, i * 3 + 1, none⟩ (.int .i64 i)).setCell ⟨ab, i * 3 + 2, none⟩ (.int .i64 0)) :=
            (((Mod.refl (fun b => blk (some (⟨ab, 0, none⟩ : Addr)) = some b) wr).setCell (p := ⟨ab, i * 3, none⟩) (fun _ => rfl) _).setCell (p := ⟨ab, i * 3 + 1, none⟩) (fun _ => rfl) _).setCell (p := ⟨ab, i * 3 + 2, none⟩) (fun _ => rfl) _
          have HMS := Lib.hid (hO.out.base (Nat.le_refl _) hM.out (i := 1) rfl hms)
          clear hms hsl
          go_wp2_with fail
          go_roundw
          case rel => exact ⟨i + 1, by go_num, hlt, HOS, HMS⟩
          case measure => simp [intOf]; omega
        · obtain rfl : i = ps.length := by omega
          rw [SPf_end] at hO
          generalize hL1 : (List.range ps.length).map f1 = L1 at *
          have HL1 := Lib.hid hL1
          clear hL1 hi hlt
          go_wp2_with fail
          -- a, gone on with
          go_loopw [8, 16] (fun av iv wr => ∃ (j : Nat) (a1 : Option Addr) (c1 : Nat), av = .slice a1 (ps.length + j) c1 ∧ iv = .int .i64 j ∧ j ≤ 30 ∧ Hid (Obs w2.heap.size wr [oR (some ⟨rb, 0, none⟩) (ls.length + 1) rc2 (ls ++ [(⟨#[109, 97, 114, 107]⟩, 0, none, 0, 0)]), oP a1 (ps.length + j) c1 (L1 ++ List.replicate j moreP), oP ba ps.length ps.length ps, oD wa ps.length wc ps]) ∧ Hid (Mod (fun _ => False) w2 wr)) (fun _ iv _ => 30 - (intOf iv).toNat)
          case atStart => exact ⟨0, aa, ps.length, rfl, rfl, by omega, Lib.hid (by rw [List.replicate_zero, List.append_nil]; exact hO), hM⟩
          case round =>
            obtain ⟨j, a1, c1, rfl, rfl, hj, hO, hM⟩ := hrel
            by_cases hjt : j < 30
            · go_wp2_with (at_builtin; refine wpL_appendOb (us := [.string ⟨#[109, 111, 114, 101]⟩, .int .i64 0, .int .i64 0]) (o := oP a1 (ps.length + j) c1 (L1 ++ List.replicate j moreP)) rfl (.tmp 155) (.tmp 157) 61 rfl hO.out (i := 1) rfl tiPz rfl rfl rfl rfl (by omega) (by show (ps.length + j + 1) * 32 ≤ _; omega) (by show ps.length + j + 1 ≤ maxLen; unfold maxLen; omega) ?_; intro a3 c3 w5 hO3 hm3 _; have HO3 := Lib.hid hO3; have HM3 := Lib.hid (hO.out.base (Nat.le_refl _) hM.out (i := 1) rfl hm3); clear hO3 hm3)
              go_roundw
              case rel =>
                have h : Obs w2.heap.size w5 [oR (some ⟨rb, 0, none⟩) (ls.length + 1) rc2 (ls ++ [(⟨#[109, 97, 114, 107]⟩, 0, none, 0, 0)]), ⟨69, 3, a3, ps.length + (j + 1), c3, pzsC (L1 ++ List.replicate j moreP) ++ pzC moreP⟩, oP ba ps.length ps.length ps, oD wa ps.length wc ps] := HO3.out
                rw [rep_succ] at h
                exact ⟨j + 1, a3, c3, rfl, by go_num, hjt, Lib.hid h, HM3⟩
              case measure => simp [intOf]; omega
            · obtain rfl : j = 30 := by omega
              obtain ⟨u3, hu3⟩ : ∃ u, u = wr := ⟨_, rfl⟩
              rw [← hu3] at hO hM ⊢
              clear hu3 hjt hj
              obtain ⟨na, hna⟩ : ∃ na, na = ps.length + 30 := ⟨_, rfl⟩
              rw [← hna] at hO ⊢
              have HNA := Lib.hid hna
              clear hna
              obtain ⟨t0, t1⟩ := HSS.out _ hM.out
              have h1 := HAI.out u3 hM.out
              have HC1 := Lib.hid h1
              clear h1
              generalize hR2 : withL rs [] = R2 at *
              have HR2 := Lib.hid hR2
              clear hR2
              generalize psOf R2 = qs at *
              generalize ffOf R2 = gg at *
              go_wp2_with fail
              refine HC1.out.mono ?_
              rintro e v5 ⟨⟨ca, rfl, hA5, hF5⟩, hN5⟩
              have HO5 := Lib.hid (hO.out.push hN5 hA5 hF5)
              have HN5 := Lib.hid (hM.out.trans hN5)
              clear hA5 hF5 hN5 HC1 t0 t1 hO hM
              obtain ⟨t0, t1⟩ := HSS.out _ HN5.out
              have HC1 := Lib.hid (HAI.out v5 HN5.out)
              go_wp2_with fail
              refine HC1.out.mono ?_
              rintro e v6 ⟨⟨da, rfl, hA5, hF5⟩, hN6⟩
              have HO6 := Lib.hid (HO5.out.push hN6 hA5 hF5)
              have HN6 := Lib.hid (HN5.out.trans hN6)
              clear hA5 hF5 hN6 HC1 t0 t1 HO5 HN5
              obtain ⟨t0, t1⟩ := HSS.out _ HN6.out
              have HC1 := Lib.hid (HRA.out v6 HN6.out)
              go_wp2_with fail
              refine HC1.out.mono ?_
              rintro e v7 ⟨⟨ma, mc, rfl, hA5, hF5⟩, hN7⟩
              have HO7 := Lib.hid (HO6.out.push hN7 hA5 hF5)
              have HN7 := Lib.hid (HN6.out.trans hN7)
              clear hA5 hF5 hN7 HC1 t0 t1 HO6 HN6 HAI HRA
              go_wp2_with fail
              generalize hLA : L1 ++ List.replicate 30 moreP = LA at *
              have HLA := Lib.hid hLA
              clear hLA
              -- b, gone on with
              go_loopw [10, 23] (fun av iv wr => ∃ (j : Nat) (b1 : Option Addr) (bc : Nat), av = .slice b1 (ps.length + j) bc ∧ iv = .int .i64 j ∧ j ≤ 30 ∧ Hid (Obs w2.heap.size wr [oR (some ⟨rb, 0, none⟩) (ls.length + 1) rc2 (ls ++ [(⟨#[109, 97, 114, 107]⟩, 0, none, 0, 0)]), oP a1 na c1 LA, oP b1 (ps.length + j) bc (ps ++ List.replicate j otherP), oD wa ps.length wc ps, oP ca qs.length qs.length qs, oP da qs.length qs.length qs, oD ma qs.length mc qs]) ∧ Hid (Mod (fun _ => False) w2 wr)) (fun _ iv _ => 30 - (intOf iv).toNat)
              case atStart => exact ⟨0, ba, ps.length, rfl, rfl, by omega, Lib.hid (by rw [List.replicate_zero, List.append_nil]; exact HO7.out), HN7⟩
              case round =>
                obtain ⟨j, b1, bc, rfl, rfl, hj, hO, hM⟩ := hrel
                clear HO7 HN7
                by_cases hjt : j < 30
                · go_wp2_with (at_builtin; refine wpL_appendOb (us := [.string ⟨#[111, 116, 104, 101, 114]⟩, .int .i64 0, .int .i64 0]) (o := oP b1 (ps.length + j) bc (ps ++ List.replicate j otherP)) rfl (.tmp 178) (.tmp 180) 61 rfl hO.out (i := 2) rfl tiPz rfl rfl rfl rfl (by omega) (by show (ps.length + j + 1) * 32 ≤ _; omega) (by show ps.length + j + 1 ≤ maxLen; unfold maxLen; omega) ?_; intro a3 c3 w5 hO3 hm3 _; have HO3 := Lib.hid hO3; have HM3 := Lib.hid (hO.out.base (Nat.le_refl _) hM.out (i := 2) rfl hm3); clear hO3 hm3)
                  go_roundw
                  case rel =>
                    have h : Obs w2.heap.size w5 [oR (some ⟨rb, 0, none⟩) (ls.length + 1) rc2 (ls ++ [(⟨#[109, 97, 114, 107]⟩, 0, none, 0, 0)]), oP a1 na c1 LA, ⟨69, 3, a3, ps.length + (j + 1), c3, pzsC (ps ++ List.replicate j otherP) ++ pzC otherP⟩, oD wa ps.length wc ps, oP ca qs.length qs.length qs, oP da qs.length qs.length qs, oD ma qs.length mc qs] := HO3.out
                    rw [rep_succ] at h
                    exact ⟨j + 1, a3, c3, rfl, by go_num, hjt, Lib.hid h, HM3⟩
                  case measure => simp [intOf]; omega
                · obtain rfl : j = 30 := by omega
                  obtain ⟨u4, hu4⟩ : ∃ u, u = wr := ⟨_, rfl⟩
                  rw [← hu4] at hO hM ⊢
                  clear hu4 hjt hj
                  have hbc : ps.length + 30 ≤ bc := (hO.out.get (i := 2) rfl).le
                  have hsb := fun W => run_slice_hi' tiPz b1 (ps.length + 30) bc ps.length (by omega) W
                  have HP1 := Lib.hid (fun W (m : Mod (fun _ => False) u4 W) => preds_true qs ca ma qs.length mc W (((hO.out.mod0 m).get (i := 4) rfl).rd) (((hO.out.mod0 m).get (i := 6) rfl).rd) (by omega))
                  have HP2 := Lib.hid (fun W (m : Mod (fun _ => False) u4 W) => preds_true qs da ma qs.length mc W (((hO.out.mod0 m).get (i := 5) rfl).rd) (((hO.out.mod0 m).get (i := 6) rfl).rd) (by omega))
                  have HP3 := Lib.hid (fun W (m : Mod (fun _ => False) u4 W) => preds_true ps b1 wa bc wc W (pz_pre (show Rd W b1 (pzsC (ps ++ List.replicate 30 otherP)) from ((hO.out.mod0 m).get (i := 2) rfl).rd)) (((hO.out.mod0 m).get (i := 3) rfl).rd) (by omega))
                  go_wp2_with (first
                    | (go_at_call 27; refine (HN.out _ _).mono ?_; rintro e w' ⟨rfl, rfl⟩))
                  refine (HP1.out _ (Mod.refl _ _)).mono ?_
                  rintro e v8 ⟨rfl, hm⟩
                  have HM8 := Lib.hid hm
                  clear hm HP1
                  go_wp2_with fail
                  refine (HP2.out _ HM8.out).mono ?_
                  rintro e v9 ⟨rfl, hm⟩
                  have HM9 := Lib.hid (HM8.out.trans hm)
                  clear hm HP2 HM8
                  go_wp2_with fail
                  refine (HP3.out _ HM9.out).mono ?_
                  rintro e v10 ⟨rfl, hm⟩
                  have HM10 := Lib.hid (HM9.out.trans hm)
                  clear hm HP3 HM9
                  obtain ⟨t0, t1⟩ := HSS.out _ (hM.out.trans HM10.out)
                  go_wp2_with fail
                  refine (HKP.out _ (hM.out.trans HM10.out)).mono ?_
                  rintro e v11 ⟨rfl, hm⟩
                  have HM11 := Lib.hid (HM10.out.trans hm)
                  have HO8 := Lib.hid (hO.out.mod0 HM11.out)
                  have HM12 := Lib.hid (hM.out.trans HM11.out)
                  clear hm HM10 t0 t1 hO hM HM11 hsb HKP
                  obtain ⟨nb, hnb⟩ : ∃ nb, nb = ps.length + 30 := ⟨_, rfl⟩
                  rw [← hnb] at HO8 ⊢
                  generalize hLB : ps ++ List.replicate 30 otherP = LB at *
                  have HNB := Lib.hid hnb; have HLB := Lib.hid hLB
                  clear hnb hLB hbc
                  go_wp2_with fail
                  -- c, written over
                  go_loopw [24] (fun iv wr => ∃ i : Nat, iv = .int .i64 i ∧ i ≤ qs.length ∧ Hid (Obs w2.heap.size wr [oR (some ⟨rb, 0, none⟩) (ls.length + 1) rc2 (ls ++ [(⟨#[109, 97, 114, 107]⟩, 0, none, 0, 0)]), oP a1 na c1 LA, oP b1 nb bc LB, oD wa ps.length wc ps, oP ca qs.length qs.length (SPf f2 qs i), oP da qs.length qs.length qs, oD ma qs.length mc qs]) ∧ Hid (Mod (fun _ => False) w2 wr)) (fun iv _ => qs.length - (intOf iv).toNat)
                  case atStart => exact ⟨0, rfl, Nat.zero_le _, Lib.hid (by rw [SPf_zero]; exact HO8.out), HM12⟩
                  case round =>
                    obtain ⟨i, rfl, hi, hO, hM⟩ := hrel
                    clear HO8 HM12
                    by_cases hlt : i < qs.length
                    · obtain ⟨ab, hab⟩ := (hO.out.get (i := 4) rfl).atHead (by show qs.length ≠ 0; omega)
                      simp only at hab
                      subst hab
                      have hsl := SPf_len f2 (Nat.le_of_lt hlt)
                      obtain ⟨y0, y1, y2, x0, x1, x2⟩ := pz_cells (show Rd wr (some ⟨ab, 0, none⟩) (pzsC (SPf f2 qs i)) from (hO.out.get (i := 4) rfl).rd) (i := i) (by omega)
                      have f0 := (hO.out.get (i := 4) rfl).frozen (b := ab) (j := i * 3) rfl
                      have f1' := (hO.out.get (i := 4) rfl).frozen (b := ab) (j := i * 3 + 1) rfl
                      have f2' := (hO.out.get (i := 4) rfl).frozen (b := ab) (j := i * 3 + 2) rfl
                      have HOS : Hid (Obs w2.heap.size (((wr.setCell ⟨ab, i * 3, none⟩ (.string ⟨#[115, 112, 111, 105, 108, 116]⟩)).setCell ⟨ab, i * 3 + 1, none⟩ (.int .i64 0)).setCell ⟨ab, i * 3 + 2, none⟩ (.int .i64 0)) [oR (some ⟨rb, 0, none⟩) (ls.length + 1) rc2 (ls ++ [(⟨#[109, 97, 114, 107]⟩, 0, none, 0, 0)]), oP a1 na c1 LA, oP b1 nb bc LB, oD wa ps.length wc ps, oP (some ⟨ab, 0, none⟩) qs.length qs.length (SPf f2 qs (i + 1)), oP da qs.length qs.length qs, oD ma qs.length mc qs]) := Lib.hid (by
                        have h := ((hO.out.store (i := 4) rfl rfl (i * 3) (.string ⟨#[115, 112, 111, 105, 108, 116]⟩)).store (i := 4) rfl rfl (i * 3 + 1) (.int .i64 0)).store (i := 4) rfl rfl (i * 3 + 2) (.int .i64 0)
                        have e := pzs_set3 (L := SPf f2 qs i) (i := i) (by omega) ⟨#[115, 112, 111, 105, 108, 116]⟩ 0 0
                        have e2 : (SPf f2 qs i).set i (⟨#[115, 112, 111, 105, 108, 116]⟩, 0, 0) = SPf f2 qs (i + 1) := SPf_step f2 hlt
                        rw [e2] at e
                        unfold oP
                        rw [← e]
                        exact h)
                      have hms : Mod (fun b => blk (some (⟨ab, 0, none⟩ : Addr)) = some b) wr (((wr.setCell ⟨ab, i * 3, none⟩ (.string ⟨#[115, 112, 111, 105, 108, 116]⟩)).setCell ⟨ab, i * 3 + 1, none⟩ (.int .i64 0)).setCell ⟨ab, i * 3 + 2, none⟩ (.int .i64 0)) :=
                        (((Mod.refl (fun b => blk (some (⟨ab, 0, none⟩ : Addr)) = some b) wr).setCell (p := ⟨ab, i * 3, none⟩) (fun _ => rfl) _).setCell (p := ⟨ab, i * 3 + 1, none⟩) (fun _ => rfl) _).setCell (p := ⟨ab, i * 3 + 2, none⟩) (fun _ => rfl) _
                      have HMS := Lib.hid (hO.out.base (Nat.le_refl _) hM.out (i := 4) rfl hms)
                      clear hms hsl
                      go_wp2_with fail
                      go_roundw
                      case rel => exact ⟨i + 1, by go_num, hlt, HOS, HMS⟩
                      case measure => simp [intOf]; omega
                    · obtain rfl : i = qs.length := by omega
                      rw [SPf_end] at hO
                      generalize hL2 : (List.range qs.length).map f2 = L2 at *
                      have HL2 : Hid (L2.length = qs.length) := Lib.hid (by rw [← hL2]; simp)
                      clear hL2 hi hlt
                      go_wp2_with fail
                      -- c and d, gone on with
                      go_loopw [17, 19, 25] (fun cv dv iv wr => ∃ (j : Nat) (cx : Option Addr) (cc : Nat) (dx : Option Addr) (dc : Nat), cv = .slice cx (qs.length + j) cc ∧ dv = .slice dx (qs.length + j) dc ∧ iv = .int .i64 j ∧ j ≤ 30 ∧ Hid (Obs w2.heap.size wr [oR (some ⟨rb, 0, none⟩) (ls.length + 1) rc2 (ls ++ [(⟨#[109, 97, 114, 107]⟩, 0, none, 0, 0)]), oP a1 na c1 LA, oP b1 nb bc LB, oD wa ps.length wc ps, oP cx (qs.length + j) cc (L2 ++ List.replicate j moreP), oP dx (qs.length + j) dc (qs ++ List.replicate j otherP), oD ma qs.length mc qs]) ∧ Hid (Mod (fun _ => False) w2 wr)) (fun _ _ iv _ => 30 - (intOf iv).toNat)
                      case atStart => exact ⟨0, ca, qs.length, da, qs.length, rfl, rfl, rfl, by omega, Lib.hid (by rw [List.replicate_zero, List.replicate_zero, List.append_nil, List.append_nil]; exact hO), hM⟩
                      case round =>
                        obtain ⟨j, cx, cc, dx, dc, rfl, rfl, rfl, hj, hO, hM⟩ := hrel
                        by_cases hjt : j < 30
                        · go_wp2_with (first
                            | (at_builtin; refine wpL_appendOb (us := [.string ⟨#[109, 111, 114, 101]⟩, .int .i64 0, .int .i64 0]) (o := oP cx (qs.length + j) cc (L2 ++ List.replicate j moreP)) rfl (.tmp 227) (.tmp 229) 61 rfl hO.out (i := 4) rfl tiPz rfl rfl rfl rfl (by omega) (by show (qs.length + j + 1) * 32 ≤ _; omega) (by show qs.length + j + 1 ≤ maxLen; unfold maxLen; omega) ?_; intro a3 c3 w5 hO3 hm3 _
                               have h3 : Obs w2.heap.size w5 [oR (some ⟨rb, 0, none⟩) (ls.length + 1) rc2 (ls ++ [(⟨#[109, 97, 114, 107]⟩, 0, none, 0, 0)]), oP a1 na c1 LA, oP b1 nb bc LB, oD wa ps.length wc ps, ⟨69, 3, a3, qs.length + (j + 1), c3, pzsC (L2 ++ List.replicate j moreP) ++ pzC moreP⟩, oP dx (qs.length + j) dc (qs ++ List.replicate j otherP), oD ma qs.length mc qs] := hO3
                               rw [rep_succ] at h3
                               have HO3 := Lib.hid h3; have HM3 := Lib.hid (hO.out.base (Nat.le_refl _) hM.out (i := 4) rfl hm3); clear hO3 hm3 h3)
                            | (at_builtin; refine wpL_appendOb (us := [.string ⟨#[111, 116, 104, 101, 114]⟩, .int .i64 0, .int .i64 0]) (o := oP dx (qs.length + j) dc (qs ++ List.replicate j otherP)) rfl (.tmp 231) (.tmp 233) 61 rfl HO3.out (i := 5) rfl tiPz rfl rfl rfl rfl (by omega) (by show (qs.length + j + 1) * 32 ≤ _; omega) (by show qs.length + j + 1 ≤ maxLen; unfold maxLen; omega) ?_; intro a4 c4 w6 hO4 hm4 _
                               have h4 : Obs w2.heap.size w6 [oR (some ⟨rb, 0, none⟩) (ls.length + 1) rc2 (ls ++ [(⟨#[109, 97, 114, 107]⟩, 0, none, 0, 0)]), oP a1 na c1 LA, oP b1 nb bc LB, oD wa ps.length wc ps, oP a3 (qs.length + (j + 1)) c3 (L2 ++ List.replicate (j + 1) moreP), ⟨69, 3, a4, qs.length + (j + 1), c4, pzsC (qs ++ List.replicate j otherP) ++ pzC otherP⟩, oD ma qs.length mc qs] := hO4
                               rw [rep_succ] at h4
                               have HO4 := Lib.hid h4; have HM4 := Lib.hid (HO3.out.base (Nat.le_refl _) HM3.out (i := 5) rfl hm4); clear hO4 hm4 h4))
                          go_roundw
                          case rel => exact ⟨j + 1, a3, c3, a4, c4, rfl, rfl, by go_num, hjt, HO4, HM4⟩
                          case measure => simp [intOf]; omega
                        · obtain rfl : j = 30 := by omega
                          obtain ⟨u5, hu5⟩ : ∃ u, u = wr := ⟨_, rfl⟩
                          rw [← hu5] at hO hM ⊢
                          clear hu5 hjt hj
                          have hdc : qs.length + 30 ≤ dc := (hO.out.get (i := 5) rfl).le
                          have hsd := fun W => run_slice_hi' tiPz dx (qs.length + 30) dc qs.length (by omega) W
                          have HP1 := Lib.hid (fun W (m : Mod (fun _ => False) u5 W) => preds_true qs dx ma dc mc W (pz_pre (show Rd W dx (pzsC (qs ++ List.replicate 30 otherP)) from ((hO.out.mod0 m).get (i := 5) rfl).rd)) (((hO.out.mod0 m).get (i := 6) rfl).rd) (by omega))
                          obtain ⟨cb, hcb⟩ := (hO.out.get (i := 4) rfl).atHead (by show qs.length + 30 ≠ 0; omega)
                          simp only at hcb
                          subst hcb
                          have HCC : Hid (∀ W, Mod (fun _ => False) u5 W → W.cell? ⟨cb, qs.length * 3, none⟩ = some (.string ⟨#[109, 111, 114, 101]⟩)) := Lib.hid (fun W m => by
                            obtain ⟨b, o, e, hc⟩ := (show Rd W (some ⟨cb, 0, none⟩) (pzsC (L2 ++ List.replicate 30 moreP)) from ((hO.out.mod0 m).get (i := 4) rfl).rd) (qs.length * 3) (.string ⟨#[109, 111, 114, 101]⟩) (by
                              rw [pzsC_append, List.getElem?_append_right (by rw [pzsC_length, HL2.out]; omega), pzsC_length, HL2.out, Nat.sub_self]; rfl)
                            cases e
                            simpa using hc)
                          go_wp2_with fail
                          refine (HP1.out _ (Mod.refl _ _)).mono ?_
                          rintro e v12 ⟨rfl, hm⟩
                          have HM13 := Lib.hid hm
                          have q0 := HCC.out _ hm
                          clear hm HP1 HCC
                          obtain ⟨t0, t1⟩ := HSS.out _ (hM.out.trans HM13.out)
                          have HO9 := Lib.hid (hO.out.mod0 HM13.out)
                          have HM14 := Lib.hid (hM.out.trans HM13.out)
                          have HC1 := Lib.hid (HWI.out v12 ls (some ⟨rb, 0, none⟩) rc2 HM14.out (oR_rd (HO9.out.get (i := 0) rfl)) (by omega) HQQ.out)
                          clear hO hM HM13 hsd
                          go_wp2_with fail
                          refine HC1.out.mono ?_
                          rintro e v13 ⟨⟨aq, rfl, _, _⟩, hm⟩
                          have HO10 := Lib.hid (HO9.out.mod0 hm)
                          have HM15 := Lib.hid (HM14.out.trans hm)
                          clear hm HC1 HO9 HM14 t0 t1 q0
                          go_wp2_with fail
                          -- the relations, turned
                          go_loopw [26] (fun iv wr => ∃ i : Nat, iv = .int .i64 i ∧ i ≤ ls.length ∧ Hid (Obs w2.heap.size wr [oR (some ⟨rb, 0, none⟩) (ls.length + 1) rc2 (RPf (gR ls) ls i ++ [(⟨#[109, 97, 114, 107]⟩, 0, none, 0, 0)]), oP a1 na c1 LA, oP b1 nb bc LB, oD wa ps.length wc ps, oP (some ⟨cb, 0, none⟩) (qs.length + 30) cc (L2 ++ List.replicate 30 moreP), oP dx (qs.length + 30) dc (qs ++ List.replicate 30 otherP), oD ma qs.length mc qs]) ∧ Hid (Mod (fun _ => False) w2 wr)) (fun iv _ => ls.length - (intOf iv).toNat)
                          case atStart => exact ⟨0, rfl, Nat.zero_le _, Lib.hid (by rw [RPf_zero]; exact HO10.out), HM15⟩
                          case round =>
                            obtain ⟨i, rfl, hi, hO, hM⟩ := hrel
                            clear HO10 HM15
                            by_cases hlt : i < ls.length
                            · have hsl := RPf_len (gR ls) (Nat.le_of_lt hlt)
                              have hil : i < (RPf (gR ls) ls i).length := by omega
                              obtain ⟨x0, x1⟩ := re_cells (oR_rd (hO.out.get (i := 0) rfl)) hil
                              rw [RPf_get (gR ls) hlt hil] at x0 x1
                              have f0 := (hO.out.get (i := 0) rfl).frozen (b := rb) (j := i * 3) rfl
                              have f1' := (hO.out.get (i := 0) rfl).frozen (b := rb) (j := i * 3 + 1) rfl
                              have hq := HLQ.out _ (List.getElem_mem hlt)
                              have hg : gR ls i = (ls[i].1 ++ ⟨#[120]⟩, nxA i ls[i].2.1, ls[i].2.2) := by unfold gR; rw [List.getD_eq_getElem?_getD, List.getElem?_eq_getElem hlt]; rfl
                              have hst := res_set2 (L := RPf (gR ls) ls i) hil (ls[i].1 ++ ⟨#[120]⟩) (nxA i ls[i].2.1)
                              rw [RPf_get (gR ls) hlt hil, ← hg, RPf_step (gR ls) hlt] at hst
                              have HST := Lib.hid hst
                              clear hst hg hsl hil
                              generalize ls[i] = t at *
                              obtain ⟨tn, ta, v1⟩ := t
                              simp only at x0 x1 hq HST
                              obtain ⟨hq1, hq2⟩ := hq
                              have HQ2 := Lib.hid hq2
                              clear hq2
                              go_wp2_with fail
                              go_roundw
                              case rel =>
                                have h := (hO.out.store (i := 0) rfl rfl (i * 3 + 1) (.int .i64 (nxA i ta))).store (i := 0) rfl rfl (i * 3) (.string (tn ++ ⟨#[120]⟩))
                                have e : ((resC (RPf (gR ls) ls i ++ [(⟨#[109, 97, 114, 107]⟩, 0, none, 0, 0)])).set (i * 3 + 1) (.int .i64 (nxA i ta))).set (i * 3) (.string (tn ++ ⟨#[120]⟩)) = resC (RPf (gR ls) ls (i + 1) ++ [(⟨#[109, 97, 114, 107]⟩, 0, none, 0, 0)]) := by
                                  have hlen : (resC (RPf (gR ls) ls i)).length = ls.length * 3 := by rw [resC_length, RPf_len (gR ls) (Nat.le_of_lt hlt)]
                                  rw [resC_append, List.set_append_left _ _ (by rw [hlen]; omega), List.set_append_left _ _ (by rw [List.length_set, hlen]; omega), HST.out, ← resC_append]
                                have h2 : Obs w2.heap.size ((wr.setCell ⟨rb, i * 3 + 1, none⟩ (.int .i64 (nxA i ta))).setCell ⟨rb, i * 3, none⟩ (.string (tn ++ ⟨#[120]⟩))) [⟨60, 3, some ⟨rb, 0, none⟩, ls.length + 1, rc2, ((resC (RPf (gR ls) ls i ++ [(⟨#[109, 97, 114, 107]⟩, 0, none, 0, 0)])).set (i * 3 + 1) (.int .i64 (nxA i ta))).set (i * 3) (.string (tn ++ ⟨#[120]⟩))⟩, oP a1 na c1 LA, oP b1 nb bc LB, oD wa ps.length wc ps, oP (some ⟨cb, 0, none⟩) (qs.length + 30) cc (L2 ++ List.replicate 30 moreP), oP dx (qs.length + 30) dc (qs ++ List.replicate 30 otherP), oD ma qs.length mc qs] := h
                                rw [e] at h2
                                have hms : Mod (fun b => blk (some (⟨rb, 0, none⟩ : Addr)) = some b) wr ((wr.setCell ⟨rb, i * 3 + 1, none⟩ (.int .i64 (nxA i ta))).setCell ⟨rb, i * 3, none⟩ (.string (tn ++ ⟨#[120]⟩))) :=
                                  ((Mod.refl (fun b => blk (some (⟨rb, 0, none⟩ : Addr)) = some b) wr).setCell (p := ⟨rb, i * 3 + 1, none⟩) (fun _ => rfl) _).setCell (p := ⟨rb, i * 3, none⟩) (fun _ => rfl) _
                                exact ⟨i + 1, by go_num, hlt, Lib.hid h2, Lib.hid (hO.out.base (Nat.le_refl _) hM.out (i := 0) rfl hms)⟩
                              case measure => simp [intOf]; omega
                            · obtain rfl : i = ls.length := by omega
                              rw [RPf_end] at hO
                              have hgl : ((List.range ls.length).map (gR ls)).length = ls.length := by simp
                              have hgo := gR_ok HLQ.out
                              have HL3 := Lib.hid hgl
                              generalize (List.range ls.length).map (gR ls) = l3 at *
                              obtain ⟨t0, t1⟩ := HSS.out _ hM.out
                              have h1 := HWI.out wr l3 (some ⟨rb, 0, none⟩) rc2 hM.out (oR_rd (hO.out.get (i := 0) rfl)) (by omega) hgo
                              rw [hgl] at h1
                              have HC1 := Lib.hid h1
                              have hR3 : (psOf (withL rs (relZ l3))).length ≤ 2 ^ 41 + 2 ^ 20 := ps_le _ fun ps h => by
                                have h1 := withR_len h
                                have h2 := HU.out
                                unfold relZ at h1; rw [List.length_map] at h1; omega
                              clear h1 hgl hgo hi hlt
                              go_wp2_with fail
                              refine HC1.out.mono ?_
                              rintro e v14 ⟨⟨ea, rfl, hA5, hF5⟩, hm⟩
                              have HO11 := Lib.hid (hO.out.push hm hA5 hF5)
                              have HM16 := Lib.hid (hM.out.trans hm)
                              clear hm HC1 hA5 hF5 hO hM t0 t1
                              obtain ⟨t0, t1⟩ := HSS.out _ HM16.out
                              have h1 := HRW.out v14 l3 (some ⟨rb, 0, none⟩) rc2 HM16.out (oR_rd (HO11.out.get (i := 0) rfl)) (by have := HL3.out; omega)
                              rw [HL3.out] at h1
                              have HC1 := Lib.hid h1
                              clear h1
                              go_wp2_with fail
                              refine HC1.out.mono ?_
                              rintro e v15 ⟨⟨fa, fc, rfl, hA5, hF5⟩, hm⟩
                              have HO12 := Lib.hid (HO11.out.push hm hA5 hF5)
                              have HM17 := Lib.hid (HM16.out.trans hm)
                              clear hm HC1 hA5 hF5 HO11 HM16 t0 t1
                              generalize psOf (withL rs (relZ l3)) = p3 at *
                              generalize ffOf (withL rs (relZ l3)) = g3 at *
                              have HP1 := Lib.hid (preds_true p3 ea fa p3.length fc v15 ((HO12.out.get (i := 7) rfl).rd) ((HO12.out.get (i := 8) rfl).rd) (by omega))
                              go_wp2_with (first
                                | (go_at_call 27; refine (HN.out _ _).mono ?_; rintro e w' ⟨rfl, rfl⟩))
                              refine HP1.out.mono ?_
                              rintro e v16 ⟨rfl, hm⟩
                              have HM18 := Lib.hid (HM17.out.trans hm)
                              have hO13 := HO12.out.mod0 hm
                              obtain ⟨ab, hab⟩ := (hO13.get (i := 1) rfl).atHead (by show na ≠ 0; have := HNA.out; omega)
                              obtain ⟨bb, hbb⟩ := (hO13.get (i := 2) rfl).atHead (by show nb ≠ 0; have := HNB.out; omega)
                              simp only at hab hbb
                              subst hab hbb
                              have HAR : Hid (Rd v16 (some ⟨ab, 0, none⟩) (pzsC LA)) := Lib.hid (hO13.get (i := 1) rfl).rd
                              have HBR : Hid (Rd v16 (some ⟨bb, 0, none⟩) (pzsC LB)) := Lib.hid (hO13.get (i := 2) rfl).rd
                              have hna : na = ps.length + 30 := HNA.out
                              have hnb : nb = ps.length + 30 := HNB.out
                              have HAE : Hid (∀ i, i < ps.length → LA[i]? = some (f1 i)) := Lib.hid (fun i hi => by
                                rw [← HLA.out, List.getElem?_append_left (by rw [← HL1.out]; simpa using hi), ← HL1.out, List.getElem?_map, List.getElem?_range hi]; rfl)
                              have HAM : Hid (∀ j, j < 30 → LA[ps.length + j]? = some moreP) := Lib.hid (fun j hj => by
                                have hl1 : L1.length = ps.length := by rw [← HL1.out]; simp
                                rw [← HLA.out, List.getElem?_append_right (by omega), hl1, Nat.add_sub_cancel_left, List.getElem?_replicate, if_pos hj])
                              have HBM : Hid (∀ j, j < 30 → LB[ps.length + j]? = some otherP) := Lib.hid (fun j hj => by
                                rw [← HLB.out, List.getElem?_append_right (by omega), Nat.add_sub_cancel_left, List.getElem?_replicate, if_pos hj])
                              clear hm HP1 HO12 HM17 hO13
                              go_wp2_with fail
                              go_loopw [31] (fun iv wr => ∃ i : Nat, iv = .int .i64 i ∧ i ≤ ps.length ∧ Hid (Mod (fun _ => False) v16 wr)) (fun iv _ => ps.length - (intOf iv).toNat)
                              case atStart => exact ⟨0, rfl, Nat.zero_le _, Lib.hid (Mod.refl _ _)⟩
                              case round =>
                                obtain ⟨i, rfl, hi, hM⟩ := hrel
                                by_cases hlt : i < ps.length
                                · obtain ⟨x0, x1⟩ := pz_name (HAR.out.mod hM.out (fun _ _ => id)) (HAE.out i hlt)
                                  simp only [f1] at x0 x1
                                  have hlt3 : i < na := by omega
                                  go_wp2_with fail
                                  go_roundw
                                  case rel => exact ⟨i + 1, by go_num, hlt, hM⟩
                                  case measure => simp [intOf]; omega
                                · go_wp2_with fail
                                  go_loopw [32] (fun iv wr => ∃ j : Nat, iv = .int .i64 j ∧ j ≤ 30 ∧ Hid (Mod (fun _ => False) v16 wr)) (fun iv _ => 30 - (intOf iv).toNat)
                                  case atStart => exact ⟨0, rfl, by omega, hM⟩
                                  case round =>
                                    obtain ⟨j, rfl, hj, hM⟩ := hrel
                                    by_cases hjt : j < 30
                                    · obtain ⟨x0, x1⟩ := pz_name (HAR.out.mod hM.out (fun _ _ => id)) (HAM.out j hjt)
                                      obtain ⟨y0, y1⟩ := pz_name (HBR.out.mod hM.out (fun _ _ => id)) (HBM.out j hjt)
                                      simp only [moreP] at x0 x1
                                      simp only [otherP] at y0 y1
                                      have hlt3 : ps.length + j < na := by omega
                                      have hlt4 : ps.length + j < nb := by omega
                                      have hkn : ((ps.length : Int) + j).toNat = ps.length + j := by omega
                                      go_wp2_with fail
                                      go_roundw
                                      case rel => exact ⟨j + 1, by go_num, hjt, hM⟩
                                      case measure => simp [intOf]; omega
                                    · go_wp2_with fail
                                      refine (HAW.out _ (HM18.out.trans hM.out)).mono ?_
                                      rintro e w99 ⟨rfl, hm⟩
                                      have HM99 := Lib.hid (HM2.out.trans ((HM18.out.trans hM.out).trans hm))
                                      clear hm
                                      go_wp2_with fail
                                      go_ret
                                      exact ⟨rfl, HM99.out⟩
end Go.Proofs.YteecbbnpgmceiaaGreatDoor
