/-
  PrintOwn, walked.
-/
import Derived.Test.YtphgglnkdfndiaaDoorPrOQ
import Derived.Test.YtphgglnkdfndiaaDoorKnow9
import Derived.Test.YtphgglnkdfndiaaDoorKpG
namespace Go.Proofs.YtphgglnkdfndiaaDoor
open Go Go.RowKit Go.Mine
set_option linter.unusedVariables false
set_option maxHeartbeats 16000000
set_option maxRecDepth 100000

theorem OwnP.rsAtO {w : World} {lo : Nat} {rs : List Rm} {gp cp : Nat} {ys : List Yr} (h : OwnP w lo rs gp cp ys) : RsAt w (.slice (some ⟨gp, 0, none⟩) rs.length cp) rs := by
  refine ⟨_, _, ys.map yV, rfl, ?_, h.at, ?_⟩
  · rw [← h.hy, List.map_map]; rfl
  · intro x hx
    obtain ⟨y, hy, rfl⟩ := List.mem_map.1 hx
    exact ⟨(h.each y hy).head.at, (h.each y hy).lsAt⟩
theorem tiPm : TI Tryd.prog 30 24 1 24 := TI.mk' (z := .agg #[.slice none 0 0]) (by kernel_rfl) (by kernel_rfl) rfl (by omega)

theorem own_walk (rs : List Rm) (v0 : Value) (w : World) (hr : RsAt w v0 rs) (hs : SmallPm rs) (hpw : Pow w) :
    Calls Tryd.prog 3 #[.agg #[v0]] w fun e w' => e = .returned (.bool true) ∧ Mod (fun _ => False) w w' := by
  obtain ⟨ad, c, xv, rfl, _⟩ := id hr
  have HRS := Lib.hid hr; have HSM := Lib.hid hs; have HPW := Lib.hid hpw
  clear hr hs hpw
  have HM0 := Lib.hid ((Mod.refl (fun _ => False) w).alloc (.cells #[.slice ad rs.length c] 24))
  have HB0 := Lib.hid (heap_alloc_new w (.cells #[.slice ad rs.length c] 24))
  go_enter Tryd.func3, Tryd.ntmps3
  go_wp2_with fail
  generalize (w.alloc (.cells #[.slice ad rs.length c] 24)) = w0 at *
  refine (know9_any w0 (HPW.out.mod0 HM0.out)).mono ?_
  rintro e w1 ⟨rfl, hM1⟩
  have HM1 := Lib.hid hM1
  have c0 := cell_at (j := 0) (hM1.at HB0.out id) rfl
  clear hM1
  go_wp2_with fail
  refine (ownProgram_any rs _ w1 (HRS.out.mod0 (HM0.out.trans HM1.out)) HSM.out).mono ?_
  rintro e w2 ⟨gp, cp, ys, rfl, hO, hM2⟩
  have m3 : Mod (fun _ => False) w2 (w2.alloc (.cells #[.slice (some ⟨gp, 0, none⟩) rs.length cp] 24)) := (Mod.refl _ w2).alloc _
  have HO := Lib.hid (hO.mod m3 (fun _ _ => id))
  have HB2 := Lib.hid (heap_alloc_new w2 (.cells #[.slice (some ⟨gp, 0, none⟩) rs.length cp] 24))
  have HM3 := Lib.hid (HM1.out.trans (hM2.trans m3))
  clear hO hM2 m3 c0
  have c2 := cell_at (j := 0) HB2.out rfl
  go_wp2_with fail
  generalize (w2.alloc (.cells #[.slice (some ⟨gp, 0, none⟩) rs.length cp] 24)) = w3 at *
  have HAT := Lib.hid HO.out.rsAtO
  have HPW3 := Lib.hid (HPW.out.mod0 (HM0.out.trans HM3.out))
  refine (TidyO_any rs _ w3 HSM.out HAT.out HPW3.out).mono ?_
  rintro e w4 ⟨_, rfl, _, hM4, ua, da, rfl, hPA⟩
  have m4 : Mod (fun _ => False) w4 (w4.alloc (.cells #[ua.val] 24)) := (Mod.refl _ w4).alloc _
  have HF4 : Hid (Fam w3.heap.size (w4.alloc (.cells #[ua.val] 24)) (bxI w4.heap.size ua.val :: pIts ⟨ua, da⟩)) :=
    Lib.hid (hPA.pIts.cons m4 (heap_alloc_new w4 _) (fun b hb => by have hb : b = w4.heap.size := hb; omega))
  have HOA := Lib.hid (PD.Ok.ofPr hPA)
  have HM4 := Lib.hid (hM4.trans m4)
  have c2 := HM4.out.cell c2 id
  have HW4 : Hid ((w4.alloc (.cells #[ua.val] 24)).heap[w4.heap.size]? = some (.cells #[ua.val] 24 (0, 0))) := Lib.hid (heap_alloc_new w4 _)
  clear hM4 m4 hPA
  obtain ⟨ev, hev⟩ : ∃ ev, ev = tidE (tidyL rs) := ⟨_, rfl⟩
  rw [← hev]
  clear hev
  obtain ⟨ua1, ua2, ua3⟩ := ua
  unfold Sl.val at *
  simp only at *
  go_wp2_with fail
  obtain ⟨B1, hB1⟩ : ∃ B, B = w4.heap.size := ⟨_, rfl⟩
  rw [← hB1] at HF4 HW4 ⊢
  clear hB1
  generalize (w4.alloc (.cells #[.slice ua1 ua2 ua3] 24)) = w5 at *
  refine (TidyO_any rs _ w5 HSM.out (HAT.out.mod0 HM4.out) (HPW3.out.mod0 HM4.out)).mono ?_
  rintro e w6 ⟨_, rfl, _, hM6, ub, db, rfl, hPB⟩
  obtain ⟨ub1, ub2, ub3⟩ := ub
  have m6 : Mod (fun _ => False) w6 (w6.alloc (.cells #[.slice ub1 ub2 ub3] 24)) := (Mod.refl _ w6).alloc _
  have HOB := Lib.hid (PD.Ok.ofPr hPB)
  have HF6 : Hid (Fam w3.heap.size (w6.alloc (.cells #[.slice ub1 ub2 ub3] 24)) (bxI w6.heap.size (.slice ub1 ub2 ub3) :: ((bxI B1 (.slice ua1 ua2 ua3) :: pIts ⟨⟨ua1, ua2, ua3⟩, da⟩) ++ pIts ⟨⟨ub1, ub2, ub3⟩, db⟩))) :=
    Lib.hid ((HF4.out.append hM6 hPB.pIts (Nat.le_refl _)).cons m6 (heap_alloc_new w6 _) (fun b hb => by have hb : b = w6.heap.size := hb; omega))
  have HM6 := Lib.hid (HM4.out.trans (hM6.trans m6))
  have c2 := HM6.out.cell (cell_at (j := 0) HB2.out rfl) id
  have a0 := cell_at (j := 0) ((hM6.trans m6).at HW4.out id) rfl
  have b0 : (w6.alloc (.cells #[.slice ub1 ub2 ub3] 24)).cell? ⟨w6.heap.size, 0, none⟩ = some (.slice ub1 ub2 ub3) := cell_at (heap_alloc_new w6 _) rfl
  clear hM6 m6 hPB HF4 HW4 HM4
  unfold Sl.val at *
  simp only at *
  go_wp2_with fail
  clear a0 b0 c2
  obtain ⟨w7, hw7⟩ : ∃ v, v = (w6.alloc (.cells #[.slice ub1 ub2 ub3] 24)) := ⟨_, rfl⟩
  have hz7 : w7.heap.size = w6.heap.size + 1 := by rw [hw7, World.size_alloc]
  have HZ7 := Lib.hid hz7
  rw [← hw7] at HF6 HM6 ⊢
  rw [← HZ7.out]
  clear hw7 hz7
  obtain ⟨B2, hB2⟩ : ∃ B, B = w6.heap.size := ⟨_, rfl⟩
  rw [← hB2] at HF6 HZ7 ⊢
  clear hB2
  have m8 : Mod (fun _ => False) w7 (w7.alloc (.cells #[.slice ua1 ua2 ua3, .slice ub1 ub2 ub3] 24)) := (Mod.refl _ w7).alloc _
  have HF8 : Hid (Fam w3.heap.size (w7.alloc (.cells #[.slice ua1 ua2 ua3, .slice ub1 ub2 ub3] 24)) ([alI (some ⟨w7.heap.size, 0, none⟩) 2 (⟨⟨ua1, ua2, ua3⟩, da⟩ :: ⟨⟨ub1, ub2, ub3⟩, db⟩ :: []), bxI B1 (.slice ua1 ua2 ua3), bxI B2 (.slice ub1 ub2 ub3)] ++ ((⟨⟨ua1, ua2, ua3⟩, da⟩ : PD) :: ⟨⟨ub1, ub2, ub3⟩, db⟩ :: []).flatMap pIts)) := by
    have h := HF6.out.cons (i := alI (some ⟨w7.heap.size, 0, none⟩) 2 (⟨⟨ua1, ua2, ua3⟩, da⟩ :: ⟨⟨ub1, ub2, ub3⟩, db⟩ :: [])) m8 ⟨rfl, .inr ⟨w7.heap.size, _, rfl, heap_alloc_new w7 _, Nat.le_refl _, (by show 2 ≤ maxLen; unfold maxLen; omega), rfl, rfl⟩⟩ (fun b hb => by
      have hb : blk (some (⟨w7.heap.size, 0, none⟩ : Addr)) = some b := hb
      cases hb; exact Nat.le_refl _)
    refine Lib.hid (h.perm (List.Perm.cons _ ?_))
    refine (List.Perm.swap _ _ _).trans (List.Perm.cons _ (List.Perm.cons _ ?_))
    show List.Perm (pIts _ ++ pIts _) (pIts _ ++ (pIts _ ++ []))
    rw [List.append_nil]
  have HM8 := Lib.hid (HM6.out.trans m8)
  have HGA : Hid (∀ b, blk (some (⟨w7.heap.size, 0, none⟩ : Addr)) = some b → w3.heap.size ≤ b) := Lib.hid (fun b hb => by cases hb; exact HM6.out.size)
  clear m8 HF6
  obtain ⟨A, hA⟩ : ∃ A, A = w7.heap.size := ⟨_, rfl⟩
  rw [← hA] at HF8 HGA ⊢
  clear hA
  generalize (w7.alloc (.cells #[.slice ua1 ua2 ua3, .slice ub1 ub2 ub3] 24)) = w8 at *
  obtain ⟨_, _, xv, exv, hx, hrx, hxt⟩ := id HAT.out
  cases exv
  have HX := Lib.hid hx; have HR := Lib.hid hrx; have HXT := Lib.hid hxt
  clear hx hrx hxt
  have hrl := HSM.out.1
  have HBI := Lib.hid (cell_at (j := 0) HB2.out rfl)
  go_loopw [8, 11, 12, 13, 14, 15] (fun av iv _ _ _ _ wr => ∃ (i : Nat) (al : Option Addr) (ac : Nat) (qs : List PD), iv = .int .i64 i ∧ i ≤ rs.length ∧ av = .slice al (i + 2) ac ∧ Hid (qs.length = i) ∧
      Hid (Fam w3.heap.size wr ([alI al ac (⟨⟨ua1, ua2, ua3⟩, da⟩ :: ⟨⟨ub1, ub2, ub3⟩, db⟩ :: qs), bxI B1 (.slice ua1 ua2 ua3), bxI B2 (.slice ub1 ub2 ub3)] ++ ((⟨⟨ua1, ua2, ua3⟩, da⟩ : PD) :: ⟨⟨ub1, ub2, ub3⟩, db⟩ :: qs).flatMap pIts)) ∧
      Hid (∀ q ∈ qs, q.Ok ∧ q.ds.length = 2) ∧ Hid (Mod (fun _ => False) w3 wr)) (fun _ iv _ _ _ _ _ => rs.length - (intOf iv).toNat)
  case atStart => exact ⟨0, some ⟨A, 0, none⟩, 2, [], rfl, Nat.zero_le _, rfl, Lib.hid rfl, HF8, Lib.hid (fun _ h => by cases h), HM8⟩
  case round =>
    obtain ⟨i, al, ac, qs, rfl, hi, rfl, hql, hf, hok, hM⟩ := hrel
    have c2 := hM.out.cell HBI.out id
    by_cases hlt : i < rs.length
    · obtain ⟨⟨sk, bk⟩, hxk, hmem⟩ := xs_get HX.out hlt
      obtain ⟨bb, o, e, x0, x1, x2⟩ := rd_cellR (HR.out.mod hM.out (fun _ _ => id)) hxk
      cases e
      simp only [Nat.zero_add] at x0 x1 x2
      have HN : Hid (∀ W, Mod (fun _ => False) wr W → Calls Tryd.prog 8 #[rmV rs[i] sk bk] W (NormRs rs[i] W)) := fun W m =>
        NormalO_any rs[i] sk bk W (HSM.out.2 _ (List.getElem_mem hlt)) ((HXT.out _ hmem).1.mod0 (hM.out.trans m)) ((HXT.out _ hmem).2.mod0 (hM.out.trans m)) (HPW3.out.mod0 (hM.out.trans m))
      have hsl : (∃ a n c, sk = .slice a n c) ∧ ∃ a n c, bk = .slice a n c := by
        obtain ⟨⟨sa, sc, e1, _⟩, ba, bc, _, e2, _⟩ := HXT.out _ hmem
        exact ⟨⟨_, _, _, e1⟩, _, _, _, e2⟩
      obtain ⟨⟨ka, kn, kc, rfl⟩, la, ln, lc, rfl⟩ := hsl
      unfold NormRs rmV at HN
      clear hxk hmem
      generalize rs[i].head.pred = pk at *
      generalize (nmR0 rs[i]).head.pred = pn at *
      generalize mayRm rs[i] = me at *
      go_wp2_with fail
      refine (HN.out _ (Mod.refl _ wr)).mono ?_
      rintro e wa ⟨_, _, rfl, _, hMa, ⟨⟨s1, sn1, sc1⟩, ⟨t1, tn1, tc1⟩, ats1⟩, rfl, rfl, hd1⟩
      unfold Sl.val
      simp only
      have m1 : Mod (fun _ => False) wa (wa.alloc (.cells #[.string pn, .slice s1 sn1 sc1, .slice t1 tn1 tc1] 38)) := (Mod.refl _ wa).alloc _
      have HD1 : Hid (RuO (wa.alloc (.cells #[.string pn, .slice s1 sn1 sc1, .slice t1 tn1 tc1] 38)) wr.heap.size ⟨⟨s1, sn1, sc1⟩, ⟨t1, tn1, tc1⟩, ats1⟩) := Lib.hid ⟨hd1.1, hd1.2.mod0 m1⟩
      have HC1 := Lib.hid (heap_alloc_new wa (.cells #[.string pn, .slice s1 sn1 sc1, .slice t1 tn1 tc1] 38))
      have HM1 := Lib.hid (hMa.trans m1)
      have c2 := HM1.out.cell c2 id; have x0 := HM1.out.cell x0 id; have x1 := HM1.out.cell x1 id; have x2 := HM1.out.cell x2 id
      clear hMa m1 hd1
      go_wp2_with fail
      refine (HN.out _ HM1.out).mono ?_
      rintro e wb ⟨_, _, rfl, _, hMb, ⟨⟨s2, sn2, sc2⟩, ⟨t2, tn2, tc2⟩, ats2⟩, rfl, rfl, hd2⟩
      unfold Sl.val
      simp only
      have HC1b := Lib.hid (hMb.at HC1.out id)
      have HD2 := Lib.hid hd2
      have HMb := Lib.hid hMb
      generalize (wa.alloc (.cells #[.string pn, .slice s1 sn1 sc1, .slice t1 tn1 tc1] 38)) = wa1 at *
      have m2 : Mod (fun _ => False) wb (wb.alloc (.cells #[.string pn, .slice s2 sn2 sc2, .slice t2 tn2 tc2] 38)) := (Mod.refl _ wb).alloc _
      have y := m2.at HC1b.out id
      have y0 := cell_at (j := 0) y rfl; have y1 := cell_at (j := 1) y rfl; have y2 := cell_at (j := 2) y rfl
      have z : (wb.alloc (.cells #[.string pn, .slice s2 sn2 sc2, .slice t2 tn2 tc2] 38)).heap[wb.heap.size]? = some (.cells #[.string pn, .slice s2 sn2 sc2, .slice t2 tn2 tc2] 38 (0, 0)) := heap_alloc_new wb _
      have z0 := cell_at (j := 0) z rfl; have z1 := cell_at (j := 1) z rfl; have z2 := cell_at (j := 2) z rfl
      clear hMb hd2 m2 y z x0 x1 x2 c2 HN
      obtain ⟨pd, hpd⟩ : ∃ pd : PD, pd = ⟨⟨some ⟨wb.heap.size + 1, 0, none⟩, 2, 2⟩, [⟨⟨s1, sn1, sc1⟩, ⟨t1, tn1, tc1⟩, ats1⟩, ⟨⟨s2, sn2, sc2⟩, ⟨t2, tn2, tc2⟩, ats2⟩]⟩ := ⟨_, rfl⟩
      have HPF : Hid (Fam w3.heap.size ((wb.alloc (.cells #[.string pn, .slice s2 sn2 sc2, .slice t2 tn2 tc2] 38)).alloc (.cells #[.string pn, .slice s1 sn1 sc1, .slice t1 tn1 tc1, .string pn, .slice s2 sn2 sc2, .slice t2 tn2 tc2] 38)) (alI al ac (⟨⟨ua1, ua2, ua3⟩, da⟩ :: ⟨⟨ub1, ub2, ub3⟩, db⟩ :: qs) :: ([bxI B1 (.slice ua1 ua2 ua3), bxI B2 (.slice ub1 ub2 ub3)] ++ ((⟨⟨ua1, ua2, ua3⟩, da⟩ : PD) :: ⟨⟨ub1, ub2, ub3⟩, db⟩ :: (qs ++ [pd])).flatMap pIts)) ∧ pd.Ok ∧ pd.ds.length = 2) := by
        have h := pair_fam hf.out HM1.out HD1.out HMb.out HD2.out (((Mod.refl (fun _ => False) wb).alloc (.cells #[.string pn, .slice s2 sn2 sc2, .slice t2 tn2 tc2] 38)).alloc (.cells #[.string pn, .slice s1 sn1 sc1, .slice t1 tn1 tc1, .string pn, .slice s2 sn2 sc2, .slice t2 tn2 tc2] 38)) (heap_two2 wb _ _) (Nat.le_succ _)
        rw [← hpd] at h
        refine Lib.hid ⟨?_, h.2, by rw [hpd]; rfl⟩
        have h1 := h.1
        rw [List.append_assoc] at h1
        have e : ((⟨⟨ua1, ua2, ua3⟩, da⟩ : PD) :: ⟨⟨ub1, ub2, ub3⟩, db⟩ :: (qs ++ [pd])).flatMap pIts = ((⟨⟨ua1, ua2, ua3⟩, da⟩ : PD) :: ⟨⟨ub1, ub2, ub3⟩, db⟩ :: qs).flatMap pIts ++ pIts pd := by
          rw [show ((⟨⟨ua1, ua2, ua3⟩, da⟩ : PD) :: ⟨⟨ub1, ub2, ub3⟩, db⟩ :: (qs ++ [pd])) = ((⟨⟨ua1, ua2, ua3⟩, da⟩ : PD) :: ⟨⟨ub1, ub2, ub3⟩, db⟩ :: qs) ++ [pd] from rfl, List.flatMap_append]
          show _ ++ (pIts pd ++ []) = _
          rw [List.append_nil]
        rw [e]
        exact h1
      have hG1 : Mine.Own ((wb.alloc (.cells #[.string pn, .slice s2 sn2 sc2, .slice t2 tn2 tc2] 38)).alloc (.cells #[.string pn, .slice s1 sn1 sc1, .slice t1 tn1 tc1, .string pn, .slice s2 sn2 sc2, .slice t2 tn2 tc2] 38)) 24 1 al (qs.length + 2) ac (((⟨⟨ua1, ua2, ua3⟩, da⟩ : PD) :: ⟨⟨ub1, ub2, ub3⟩, db⟩ :: qs).map fun p => p.u.val) := HPF.out.1.at_ _ (List.mem_cons_self ..)
      rw [hql.out] at hG1
      have HG1 := Lib.hid hG1
      have HPDV : Hid (pd.u.val = .slice (some ⟨wb.heap.size + 1, 0, none⟩) 2 2) := by rw [hpd]; exact Lib.hid rfl
      have HMC := Lib.hid (hM.out.trans (HM1.out.trans (HMb.out.trans (((Mod.refl (fun _ => False) wb).alloc (.cells #[.string pn, .slice s2 sn2 sc2, .slice t2 tn2 tc2] 38)).alloc (.cells #[.string pn, .slice s1 sn1 sc1, .slice t1 tn1 tc1, .string pn, .slice s2 sn2 sc2, .slice t2 tn2 tc2] 38)))))
      clear hG1 hpd hf HD1 HD2 HC1b HC1 HM1 HMb hM
      go_wp2_with (at_builtin; refine wpL_appendN (us := [.slice (some ⟨wb.heap.size + 1, 0, none⟩) 2 2]) rfl (.tmp 77) (.tmp 82) 30 rfl tiPm rfl HG1.out rfl rfl rfl (by show (i + 2 + 1) * _ ≤ _; omega) (by show i + 2 + 1 ≤ _; unfold maxLen; omega) ?_; intro a' c' w' hO' hG' _
                   have hO2 : (alI a' c' (⟨⟨ua1, ua2, ua3⟩, da⟩ :: ⟨⟨ub1, ub2, ub3⟩, db⟩ :: (qs ++ [pd]))).P w' := by
                     show Mine.Own w' _ 1 a' ((qs ++ [pd]).length + 2) c' ((⟨ua1, ua2, ua3⟩ : Sl).val :: (⟨ub1, ub2, ub3⟩ : Sl).val :: (qs ++ [pd]).map fun p => p.u.val)
                     rw [List.length_append, List.map_append, hql.out, List.map_cons, HPDV.out]
                     have e : i + [pd].length + 2 = i + 2 + 1 := by show i + 1 + 2 = _; omega
                     rw [e]
                     exact hO'
                   have HFN := Lib.hid (HPF.out.1.upd0 (i' := alI a' c' (⟨⟨ua1, ua2, ua3⟩, da⟩ :: ⟨⟨ub1, ub2, ub3⟩, db⟩ :: (qs ++ [pd]))) hG'.mod hO2 (fun b hb => by
                     rcases hG'.pos with e | ⟨g, e, hg⟩
                     · exact .inl (by show blk al = some b; rw [← e]; exact hb)
                     · have hb : blk a' = some b := hb
                       rw [e] at hb; cases hb; exact .inr hg))
                   have HMN : Hid (Mod (fun _ => False) w3 w') := Lib.hid (HPF.out.1.base (Nat.le_refl _) HMC.out (List.mem_cons_self ..) hG'.mod)
                   clear hO' hG' hO2 y0 y1 y2 z0 z1 z2)
      go_roundw
      case rel => exact ⟨i + 1, a', c', qs ++ [pd], by go_num, hlt, rfl, Lib.hid (by rw [List.length_append, hql.out]; rfl), HFN, Lib.hid (fun q hq => by
        rcases List.mem_append.1 hq with hq | hq
        · exact hok.out q hq
        · rw [List.mem_singleton] at hq; subst hq; exact HPF.out.2), HMN⟩
      case measure => simp [intOf]; omega
    · obtain rfl : i = rs.length := by omega
      have HPOK : Hid (∀ p ∈ ((⟨⟨ua1, ua2, ua3⟩, da⟩ : PD) :: ⟨⟨ub1, ub2, ub3⟩, db⟩ :: qs), p.Ok) := Lib.hid (fun p hp => by
        rcases List.mem_cons.1 hp with rfl | hp
        · exact HOA.out
        · rcases List.mem_cons.1 hp with rfl | hp
          · exact HOB.out
          · exact (hok.out p hp).1)
      have HDL : Hid ((DS ((⟨⟨ua1, ua2, ua3⟩, da⟩ : PD) :: ⟨⟨ub1, ub2, ub3⟩, db⟩ :: qs)).length ≤ 2 ^ 32) := Lib.hid (by
        have h1 := DS_two hok.out
        have h2 := HOA.out.len; have h3 := HOA.out.few; have h4 := HOB.out.len; have h5 := HOB.out.few
        simp only at h2 h3 h4 h5
        have h6 := hql.out
        show (da ++ (db ++ DS qs)).length ≤ _
        rw [List.length_append, List.length_append]
        omega)
      have HPL : Hid (((⟨⟨ua1, ua2, ua3⟩, da⟩ : PD) :: ⟨⟨ub1, ub2, ub3⟩, db⟩ :: qs).length = rs.length + 2) := Lib.hid (by rw [List.length_cons, List.length_cons, hql.out])
      obtain ⟨ps, hps⟩ : ∃ ps, ps = ((⟨⟨ua1, ua2, ua3⟩, da⟩ : PD) :: ⟨⟨ub1, ub2, ub3⟩, db⟩ :: qs) := ⟨_, rfl⟩
      rw [← hps] at HPOK HDL HPL hf
      have HPS := Lib.hid hps
      clear hps hok hql
      obtain ⟨pn, hpn⟩ : ∃ n, n = ps.length := ⟨_, rfl⟩
      have hpb : pn < 2 ^ 31 := by have := HPL.out; omega
      have HPN := Lib.hid hpn
      have e2 : rs.length + 2 = pn := by rw [hpn]; exact HPL.out.symm
      rw [e2]
      clear e2 hpn
      have HF0 : Hid (Fam w3.heap.size wr (lsI none 0 [] :: bsI none 0 [] :: ([alI al ac ps, bxI B1 (.slice ua1 ua2 ua3), bxI B2 (.slice ub1 ub2 ub3)] ++ ps.flatMap pIts))) :=
        Lib.hid ((hf.out.cons (i := bsI none 0 []) (Mod.refl _ _) (Mine.Own.nil _ _ _) (fun b hb => by cases hb)).cons (i := lsI none 0 []) (Mod.refl _ _) (Mine.Own.nil _ _ _) (fun b hb => by cases hb))
      clear hf
      go_wp2_with fail
      clear c2
      go_loopw [9, 10, 16, 17, 18, 19] (fun lv bv iv _ _ _ wv => ∃ (i : Nat) (la : Option Addr) (ln lc : Nat) (ba : Option Addr) (bn bc : Nat) (dl : List RD), iv = .int .i64 i ∧ i ≤ pn ∧ lv = .slice la ln lc ∧ bv = .slice ba bn bc ∧ Hid (dl = DS (ps.take i)) ∧ Hid ((dl.flatMap lsD).length = ln) ∧ Hid (dl.length = bn) ∧
          Hid (Fam w3.heap.size wv (lsI la lc (dl.flatMap lsD) :: bsI ba bc dl :: ([alI al ac ps, bxI B1 (.slice ua1 ua2 ua3), bxI B2 (.slice ub1 ub2 ub3)] ++ ps.flatMap pIts))) ∧ Hid (Mod (fun _ => False) w3 wv)) (fun _ _ iv _ _ _ _ => pn - (intOf iv).toNat)
      case atStart => exact ⟨0, none, 0, 0, none, 0, 0, [], rfl, Nat.zero_le _, rfl, rfl, Lib.hid rfl, Lib.hid rfl, Lib.hid rfl, HF0, hM⟩
      case round =>
        obtain ⟨i, la, ln, lc, ba, bn, bc, dl, rfl, hi, rfl, rfl, hdl, hll, hbl, hf, hM⟩ := hrel
        by_cases hlt : i < pn
        · have hip : i < ps.length := by have := HPN.out; omega
          have hc := fun W (hW : (alI al ac ps).P W) => ownI_cell (f := fun p : PD => p.u.val) hW hip
          have hpo := HPOK.out _ (List.getElem_mem hip)
          have hui := uI_mem hip
          have hbi := fun k (hk : k < ps[i].ds.length) => bI_mem hip hk
          have hpre := fun k (hk : k ≤ ps[i].ds.length) => DS_pre hip hk
          have hstep := DS_step hip
          have hdp := fun x (hx : x ∈ ps[i].ds) => (List.mem_flatMap.2 ⟨_, List.getElem_mem hip, hx⟩ : x ∈ DS ps)
          obtain ⟨p, hp⟩ : ∃ p, p = ps[i] := ⟨_, rfl⟩
          rw [← hp] at hc hpo hui hbi hpre hstep hdp
          clear hp hip
          obtain ⟨ab, e, _⟩ := hc wr (hf.out.at_ (alI al ac ps) (by simp))
          subst e
          have hc2 : ∀ W, (alI (some ⟨ab, 0, none⟩) ac ps).P W → W.cell? ⟨ab, i, none⟩ = some p.u.val := fun W hW => by
            obtain ⟨b, e, h⟩ := hc W hW
            cases e
            exact h
          obtain ⟨⟨pu1, pu2, pu3⟩, pds⟩ := p
          have HC := Lib.hid hc2; have HPO := Lib.hid hpo; have HUI := Lib.hid hui; have HBD := Lib.hid hbi; have HPRE := Lib.hid hpre; have HSTEP := Lib.hid hstep; have HDP := Lib.hid hdp
          simp only [Sl.val] at HC
          have hpf := hpo.few
          simp only at hpf
          clear hc hc2 hpo hui hbi hpre hstep hdp
          go_wp2_with fail
          go_loopw [9, 10, 17, 18, 19] (fun lv bv kv _ _ wv => ∃ (k : Nat) (la : Option Addr) (ln lc : Nat) (ba : Option Addr) (bn bc : Nat) (dl : List RD), kv = .int .i64 k ∧ k ≤ pu2 ∧ lv = .slice la ln lc ∧ bv = .slice ba bn bc ∧ Hid (dl = DS (ps.take i) ++ pds.take k) ∧ Hid ((dl.flatMap lsD).length = ln) ∧ Hid (dl.length = bn) ∧
              Hid (Fam w3.heap.size wv (lsI la lc (dl.flatMap lsD) :: bsI ba bc dl :: ([alI (some ⟨ab, 0, none⟩) ac ps, bxI B1 (.slice ua1 ua2 ua3), bxI B2 (.slice ub1 ub2 ub3)] ++ ps.flatMap pIts))) ∧ Hid (Mod (fun _ => False) w3 wv)) (fun _ _ kv _ _ _ => pu2 - (intOf kv).toNat)
          case atStart => exact ⟨0, la, ln, lc, ba, bn, bc, dl, rfl, Nat.zero_le _, rfl, rfl, Lib.hid (by rw [hdl.out, List.take_zero, List.append_nil]), hll, hbl, hf, hM⟩
          case round =>
            clear hf hM hdl hll hbl
            obtain ⟨k, la, ln, lc, ba, bn, bc, dl, rfl, hk, rfl, rfl, hdl, hll, hbl, hf, hM⟩ := hrel
            have c0 := HC.out wr (hf.out.at_ (alI (some ⟨ab, 0, none⟩) ac ps) (by simp))
            have hdk := HPO.out.len
            simp only at hdk
            by_cases hlk : k < pu2
            · have hkd : k < pds.length := by omega
              obtain ⟨g, st, e, y0, y1, y2⟩ := uI_cells (hf.out.at_ _ (List.mem_cons_of_mem _ (List.mem_cons_of_mem _ (List.mem_append_right _ HUI.out)))) HPO.out (k := k) hlk
              simp only at e y0 y1 y2
              subst e
              have hdo := HPO.out.ok _ (List.getElem_mem hkd)
              have hbm := HBD.out k hkd
              have hp1 := HPRE.out k (by omega)
              have hp2 := HPRE.out (k + 1) hkd
              try simp only at hbm hp1 hp2
              rw [List.take_succ_eq_append_getElem hkd, ← List.append_assoc, ← hdl.out] at hp2
              rw [← hdl.out] at hp1
              obtain ⟨d, hd⟩ : ∃ d, d = pds[k] := ⟨_, rfl⟩
              have HDL2 : Hid (DS (ps.take i) ++ pds.take (k + 1) = dl ++ [d]) := Lib.hid (by rw [List.take_succ_eq_append_getElem hkd, ← List.append_assoc, ← hdl.out, hd])
              rw [← hd] at y1 y2 hdo hbm hp2
              clear hd hkd
              have hbn : bn < 2 ^ 33 := by have := hbl.out; have := HDL.out; omega
              have hln : ln + 65 < 2 ^ 40 := by
                have h1 := lsD_lens (ds := dl) (fun x hx => DS_ok HPOK.out x (by
                  rw [hdl.out] at hx
                  rcases List.mem_append.1 hx with hx | hx
                  · obtain ⟨q, hq, hx⟩ := List.mem_flatMap.1 hx
                    exact List.mem_flatMap.2 ⟨q, List.mem_of_mem_take hq, hx⟩
                  · exact HDP.out x (List.mem_of_mem_take hx)))
                have := HDL.out; have := hll.out; omega
              have HDO := Lib.hid hdo; have HBM := Lib.hid hbm
              have hb64 := hdo.b; have hlen := hdo.len
              obtain ⟨⟨s1, sn, sc⟩, ⟨b1, bm, bk⟩, ats⟩ := d
              simp only [Sl.val] at y1 y2
              simp only at hb64 hlen
              clear hdo hbm hp1 hp2
              have HF1 : Hid (Fam w3.heap.size (wr.alloc (.cells #[.string st, .slice s1 sn sc, .slice b1 bm bk] 38)) (bx3I wr.heap.size (.string st) (.slice s1 sn sc) (.slice b1 bm bk) :: lsI la lc (dl.flatMap lsD) :: bsI ba bc dl :: ([alI (some ⟨ab, 0, none⟩) ac ps, bxI B1 (.slice ua1 ua2 ua3), bxI B2 (.slice ub1 ub2 ub3)] ++ ps.flatMap pIts))) :=
                Lib.hid (hf.out.cons ((Mod.refl _ wr).alloc _) (heap_alloc_new wr _) (fun b hb => by have hb : b = wr.heap.size := hb; omega))
              have HM1 : Hid (Mod (fun _ => False) w3 (wr.alloc (.cells #[.string st, .slice s1 sn sc, .slice b1 bm bk] 38))) := Lib.hid (hM.out.alloc _)
              have hg1 : Mine.Own (wr.alloc (.cells #[.string st, .slice s1 sn sc, .slice b1 bm bk] 38)) 33 1 la (dl.flatMap lsD).length lc ((dl.flatMap lsD).map Sl.val) := HF1.out.at_ (lsI la lc (dl.flatMap lsD)) (by simp)
              rw [hll.out] at hg1
              have HG1 := Lib.hid hg1
              clear hg1 hf hM
              go_wp2_with (first
                | (at_builtin; refine wpL_appendN (us := [.slice s1 sn sc]) rfl (.tmp 108) (.tmp 112) 31 rfl tiTs rfl HG1.out rfl rfl rfl (by show (ln + 1) * _ ≤ _; omega) (by show ln + 1 ≤ _; unfold maxLen; omega) ?_; intro a4 c4 w4 hO' hG' _
                   have HF2 : Hid (Fam w3.heap.size w4 (bx3I wr.heap.size (.string st) (.slice s1 sn sc) (.slice b1 bm bk) :: lsI a4 c4 (dl.flatMap lsD ++ [(⟨s1, sn, sc⟩ : Sl)]) :: bsI ba bc dl :: ([alI (some ⟨ab, 0, none⟩) ac ps, bxI B1 (.slice ua1 ua2 ua3), bxI B2 (.slice ub1 ub2 ub3)] ++ ps.flatMap pIts))) :=
                     Lib.hid (Fam.upd (l1 := [bx3I wr.heap.size (.string st) (.slice s1 sn sc) (.slice b1 bm bk)]) (i := lsI la lc (dl.flatMap lsD)) HF1.out hG'.mod (by
                       show Mine.Own w4 _ 1 a4 (dl.flatMap lsD ++ [(⟨s1, sn, sc⟩ : Sl)]).length c4 _
                       rw [List.length_append, List.map_append, hll.out]; exact hO') (fun b hb => hG'.pos.elim (fun e => .inl (by show blk la = some b; rw [← e]; exact hb)) (fun ⟨g, e, hg⟩ => by
                         have hb : blk a4 = some b := hb
                         rw [e] at hb; cases hb; exact .inr hg)))
                   have HM2 : Hid (Mod (fun _ => False) w3 w4) := Lib.hid (HF1.out.base (Nat.le_refl _) HM1.out (i := lsI la lc (dl.flatMap lsD)) (by simp) hG'.mod)
                   have q := HF2.out.at_ (bx3I wr.heap.size (.string st) (.slice s1 sn sc) (.slice b1 bm bk)) (List.mem_cons_self ..)
                   have q2 : w4.cell? ⟨wr.heap.size, 2, none⟩ = some (.slice b1 bm bk) := cell_at (show w4.heap[wr.heap.size]? = _ from q) rfl
                   have hg2 : Mine.Own w4 36 1 ba dl.length bc (dl.map fun d => d.b.val) := HF2.out.at_ (bsI ba bc dl) (by simp)
                   rw [hbl.out] at hg2
                   have HG2 := Lib.hid hg2
                   clear hO' hG' q hg2 HF1 HM1 HG1)
                | (at_builtin; refine wpL_appendN (us := [.slice b1 bm bk]) rfl (.tmp 114) (.tmp 117) 32 rfl tiLs rfl HG2.out rfl rfl rfl (by show (bn + 1) * _ ≤ _; omega) (by show bn + 1 ≤ _; unfold maxLen; omega) ?_; intro a5 c5 w5' hO' hG' _
                   have HF3 : Hid (Fam w3.heap.size w5' (bx3I wr.heap.size (.string st) (.slice s1 sn sc) (.slice b1 bm bk) :: lsI a4 c4 (dl.flatMap lsD ++ [(⟨s1, sn, sc⟩ : Sl)]) :: bsI a5 c5 (dl ++ [(⟨⟨s1, sn, sc⟩, ⟨b1, bm, bk⟩, ats⟩ : RD)]) :: ([alI (some ⟨ab, 0, none⟩) ac ps, bxI B1 (.slice ua1 ua2 ua3), bxI B2 (.slice ub1 ub2 ub3)] ++ ps.flatMap pIts))) :=
                     Lib.hid (Fam.upd (l1 := [bx3I wr.heap.size (.string st) (.slice s1 sn sc) (.slice b1 bm bk), lsI a4 c4 (dl.flatMap lsD ++ [(⟨s1, sn, sc⟩ : Sl)])]) (i := bsI ba bc dl) HF2.out hG'.mod (by
                       show Mine.Own w5' _ 1 a5 (dl ++ [(⟨⟨s1, sn, sc⟩, ⟨b1, bm, bk⟩, ats⟩ : RD)]).length c5 _
                       rw [List.length_append, List.map_append, hbl.out]; exact hO') (fun b hb => hG'.pos.elim (fun e => .inl (by show blk ba = some b; rw [← e]; exact hb)) (fun ⟨g, e, hg⟩ => by
                         have hb : blk a5 = some b := hb
                         rw [e] at hb; cases hb; exact .inr hg)))
                   have HM3b : Hid (Mod (fun _ => False) w3 w5') := Lib.hid (HF2.out.base (Nat.le_refl _) HM2.out (i := bsI ba bc dl) (by simp) hG'.mod)
                   clear hO' hG' HF2 HM2 HG2 q2))
              obtain ⟨R, hR⟩ : ∃ R, R = wr.heap.size := ⟨_, rfl⟩
              rw [← hR] at HF3 ⊢
              clear hR
              obtain ⟨lo, hlo⟩ : ∃ l, l = dl.flatMap lsD := ⟨_, rfl⟩
              rw [← hlo] at HF3 hll
              have HLO := Lib.hid hlo
              clear hlo
              go_loopw [9, 19] (fun lv nv wv => ∃ (n : Nat) (la : Option Addr) (lc : Nat), nv = .int .i64 n ∧ n ≤ bm ∧ lv = .slice la (ln + 1 + n) lc ∧
                Hid (Fam w3.heap.size wv (bx3I R (.string st) (.slice s1 sn sc) (.slice b1 bm bk) :: lsI la lc (lo ++ (⟨s1, sn, sc⟩ : Sl) :: ats.take n) :: bsI a5 c5 (dl ++ [(⟨⟨s1, sn, sc⟩, ⟨b1, bm, bk⟩, ats⟩ : RD)]) :: ([alI (some ⟨ab, 0, none⟩) ac ps, bxI B1 (.slice ua1 ua2 ua3), bxI B2 (.slice ub1 ub2 ub3)] ++ ps.flatMap pIts))) ∧ Hid (Mod (fun _ => False) w3 wv)) (fun _ nv _ => bm - (intOf nv).toNat)
              case atStart => exact ⟨0, a4, c4, rfl, Nat.zero_le _, rfl, HF3, HM3b⟩
              case round =>
                obtain ⟨n, la, lc, rfl, hn, rfl, hf, hM⟩ := hrel
                have q := hf.out.at_ (bx3I R (.string st) (.slice s1 sn sc) (.slice b1 bm bk)) (List.mem_cons_self ..)
                have q2 : wr.cell? ⟨R, 2, none⟩ = some (.slice b1 bm bk) := cell_at (show wr.heap[R]? = _ from q) rfl
                clear q
                by_cases hln2 : n < bm
                · obtain ⟨gb, e, z⟩ := bI_cell (hf.out.at_ _ (List.mem_cons_of_mem _ (List.mem_cons_of_mem _ (List.mem_cons_of_mem _ (List.mem_append_right _ HBM.out))))) HDO.out (n := n) hln2
                  simp only at e z
                  subst e
                  have hna : n < ats.length := by omega
                  have htn : ats.take (n + 1) = ats.take n ++ [ats[n]] := List.take_succ_eq_append_getElem hna
                  obtain ⟨t, ht⟩ : ∃ t, t = ats[n] := ⟨_, rfl⟩
                  have hll3 : (lo ++ (⟨s1, sn, sc⟩ : Sl) :: ats.take n).length = ln + 1 + n := by
                    rw [List.length_append, List.length_cons, List.length_take, hll.out]; omega
                  rw [← ht] at z htn
                  clear ht hna
                  obtain ⟨t1, tn, tc⟩ := t
                  simp only [Sl.val] at z
                  have hg1 : Mine.Own wr 33 1 la (lo ++ (⟨s1, sn, sc⟩ : Sl) :: ats.take n).length lc ((lo ++ (⟨s1, sn, sc⟩ : Sl) :: ats.take n).map Sl.val) := hf.out.at_ (lsI la lc (lo ++ (⟨s1, sn, sc⟩ : Sl) :: ats.take n)) (by simp)
                  rw [hll3] at hg1
                  have HG1 := Lib.hid hg1; have HLL3 := Lib.hid hll3; have HTN := Lib.hid htn
                  clear hg1 hll3 htn
                  go_wp2_with (at_builtin; refine wpL_appendN (us := [.slice t1 tn tc]) rfl (.tmp 126) (.tmp 134) 31 rfl tiTs rfl HG1.out rfl rfl rfl (by show (ln + 1 + n + 1) * _ ≤ _; omega) (by show ln + 1 + n + 1 ≤ _; unfold maxLen; omega) ?_; intro a6 c6 w6' hO' hG' _
                               have HF4 : Hid (Fam w3.heap.size w6' (bx3I R (.string st) (.slice s1 sn sc) (.slice (some ⟨gb, 0, none⟩) bm bk) :: lsI a6 c6 (lo ++ (⟨s1, sn, sc⟩ : Sl) :: ats.take (n + 1)) :: bsI a5 c5 (dl ++ [(⟨⟨s1, sn, sc⟩, ⟨some ⟨gb, 0, none⟩, bm, bk⟩, ats⟩ : RD)]) :: ([alI (some ⟨ab, 0, none⟩) ac ps, bxI B1 (.slice ua1 ua2 ua3), bxI B2 (.slice ub1 ub2 ub3)] ++ ps.flatMap pIts))) :=
                                 Lib.hid (Fam.upd (l1 := [bx3I R (.string st) (.slice s1 sn sc) (.slice (some ⟨gb, 0, none⟩) bm bk)]) (i := lsI la lc (lo ++ (⟨s1, sn, sc⟩ : Sl) :: ats.take n)) hf.out hG'.mod (by
                                   show Mine.Own w6' _ 1 a6 (lo ++ (⟨s1, sn, sc⟩ : Sl) :: ats.take (n + 1)).length c6 _
                                   have e : lo ++ (⟨s1, sn, sc⟩ : Sl) :: ats.take (n + 1) = (lo ++ (⟨s1, sn, sc⟩ : Sl) :: ats.take n) ++ [(⟨t1, tn, tc⟩ : Sl)] := by rw [HTN.out, List.append_assoc]; rfl
                                   rw [e, List.length_append, List.map_append, HLL3.out]; exact hO') (fun b hb => hG'.pos.elim (fun e => .inl (by show blk la = some b; rw [← e]; exact hb)) (fun ⟨g, e, hg⟩ => by
                                     have hb : blk a6 = some b := hb
                                     rw [e] at hb; cases hb; exact .inr hg)))
                               have HM4 : Hid (Mod (fun _ => False) w3 w6') := Lib.hid (hf.out.base (Nat.le_refl _) hM.out (i := lsI la lc (lo ++ (⟨s1, sn, sc⟩ : Sl) :: ats.take n)) (by simp) hG'.mod)
                               clear hO' hG' hf hM q2)
                  go_roundw
                  case rel => exact ⟨n + 1, a6, c6, by go_num, hln2, by rw [Nat.add_assoc (ln + 1) n 1], HF4, HM4⟩
                  case measure => simp [intOf]; omega
                · obtain rfl : n = bm := by omega
                  have HFE : Hid ((dl ++ [(⟨⟨s1, sn, sc⟩, ⟨b1, n, bk⟩, ats⟩ : RD)]).flatMap lsD = dl.flatMap lsD ++ (⟨s1, sn, sc⟩ : Sl) :: ats) := Lib.hid (by
                    rw [List.flatMap_append]
                    show _ ++ (((⟨s1, sn, sc⟩ : Sl) :: ats) ++ []) = _
                    rw [List.append_nil])
                  have HF5 : Hid (Fam w3.heap.size wr (lsI la lc ((dl ++ [(⟨⟨s1, sn, sc⟩, ⟨b1, n, bk⟩, ats⟩ : RD)]).flatMap lsD) :: bsI a5 c5 (dl ++ [(⟨⟨s1, sn, sc⟩, ⟨b1, n, bk⟩, ats⟩ : RD)]) :: ([alI (some ⟨ab, 0, none⟩) ac ps, bxI B1 (.slice ua1 ua2 ua3), bxI B2 (.slice ub1 ub2 ub3)] ++ ps.flatMap pIts))) := by
                    have h := hf.out.sub (List.sublist_cons_self ..)
                    rw [List.take_of_length_le (by omega), HLO.out] at h
                    rw [HFE.out]
                    exact Lib.hid h
                  have HLN : Hid (((dl ++ [(⟨⟨s1, sn, sc⟩, ⟨b1, n, bk⟩, ats⟩ : RD)]).flatMap lsD).length = ln + 1 + n) := by
                    rw [HFE.out, List.length_append, List.length_cons, ← HLO.out, hll.out]
                    exact Lib.hid (by omega)
                  have HBN : Hid ((dl ++ [(⟨⟨s1, sn, sc⟩, ⟨b1, n, bk⟩, ats⟩ : RD)]).length = bn + 1) := by rw [List.length_append, hbl.out]; exact Lib.hid rfl
                  clear hf
                  go_wp2_with fail
                  clear q2
                  go_roundw
                  case rel => exact ⟨k + 1, la, ln + 1 + n, lc, a5, bn + 1, c5, _, by go_num, hlk, rfl, rfl, Lib.hid HDL2.out.symm, HLN, HBN, HF5, hM⟩
                  case measure => simp [intOf]; omega
            · obtain rfl : k = pu2 := by omega
              go_wp2_with fail
              go_roundw
              case rel => exact ⟨i + 1, la, ln, lc, ba, bn, bc, dl, by go_num, hlt, rfl, rfl, by rw [HSTEP.out]; exact Lib.hid (by rw [hdl.out, show pds.take k = pds from List.take_of_length_le (by omega)]), hll, hbl, hf, hM⟩
              case measure => simp [intOf]; omega
        · obtain rfl : i = pn := by omega
          have hde : dl = DS ps := by rw [hdl.out, HPN.out, List.take_length]
          subst hde
          have hz : ∀ p : PD, p.u.val = .slice p.u.a p.u.n p.u.c := fun _ => rfl
          have HFS : Hid (Fam w3.heap.size wr (rlI B1 ⟨ua1, ua2, ua3⟩ ua2 0 ⟨#[111, 110, 101]⟩ :: rlI B2 ⟨ub1, ub2, ub3⟩ ub2 0 ⟨#[116, 119, 111]⟩ :: ((lsI la lc ((DS ps).flatMap lsD) :: ((DS ps).flatMap lsD).map tE) ++ bsI ba bc (DS ps) :: (DS ps).map bI))) :=
            Lib.hid (stage (pA := ⟨⟨ua1, ua2, ua3⟩, da⟩) (pB := ⟨⟨ub1, ub2, ub3⟩, db⟩) hf.out HPS.out)
          have HOK := Lib.hid (DS_ok HPOK.out)
          have HUA : Hid (ua2 ≤ 1024 ∧ ub2 ≤ 1024) := Lib.hid ⟨HOA.out.few, HOB.out.few⟩
          obtain ⟨dl, hdd⟩ : ∃ dl, dl = DS ps := ⟨_, rfl⟩
          rw [← hdd] at HFS HOK HDL hll hbl
          have hb32 : bn ≤ 2 ^ 32 := by have := HDL.out; have := hbl.out; omega
          have hl40 : ln ≤ 65 * 2 ^ 32 := by have := lsD_lens HOK.out; have := hll.out; have := HDL.out; omega
          clear hdd hdl hz hf HPOK HDL HOA HOB HPS HPL HPN
          obtain ⟨hu1, hu2⟩ := HUA.out
          go_wp2_with fail
          have a0 : wr.cell? ⟨B1, 0, none⟩ = some (.slice ua1 ua2 ua3) := cell_at (HFS.out.at_ (rlI B1 ⟨ua1, ua2, ua3⟩ ua2 0 ⟨#[111, 110, 101]⟩) (by simp)).1 rfl
          have b0 : wr.cell? ⟨B2, 0, none⟩ = some (.slice ub1 ub2 ub3) := cell_at (HFS.out.at_ (rlI B2 ⟨ub1, ub2, ub3⟩ ub2 0 ⟨#[116, 119, 111]⟩) (by simp)).1 rfl
          refine wp_region_ord (fun w' => w'.cell? ⟨B1, 0, none⟩ = some (.slice ua1 ua2 ua3) ∧ w'.cell? ⟨B2, 0, none⟩ = some (.slice ub1 ub2 ub3)) [(0, 0), (1, 1), (0, 2), (0, 3), (1, 4), (0, 5), (0, 6), (0, 7)] (by kernel_rfl) (by kernel_rfl) ?_
          go_wp2_with (first
            | (refine ord_pure rfl rfl rfl (fun K hK => ?_); go_big_quiet_op; refine hK _ ?_; clear hK K)
                                                                | (refine ord_skip rfl rfl ?_; simp only [Act.put, List.setIfInBounds_toArray, List.set_cons_zero, List.set_cons_succ])
                                                                | (refine ord_held rfl rfl rfl (⟨a0, b0⟩) (fun K hK => ?_); apply Exists.intro; refine ⟨fun w' hs => ?_, hK _ ?_⟩; (revert hs; dsimp only; (try simp only [and_imp]); intros; go_simp; rfl); clear hK K)
                                                                | (refine ord_keep rfl rfl (⟨a0, b0⟩) (fun K hK => ?_))
                                                                | (refine ord_drop rfl rfl (fun K hK => ?_))
                                                                | (refine ord_nil ?_))
          have HFS := Lib.hid (HFS.out.mod0 (Mod.refl (fun _ => False) wr).drew)
          have HMW := Lib.hid hM.out.drew
          clear a0 b0 hM
          obtain ⟨RS, hRS⟩ : ∃ l, l = ((lsI la lc (dl.flatMap lsD) :: (dl.flatMap lsD).map tE) ++ bsI ba bc dl :: dl.map bI) := ⟨_, rfl⟩
          rw [← hRS] at HFS
          have HRS2 := Lib.hid hRS
          clear hRS
          generalize wr.drew = w9 at *
          go_loopw [22] (fun iv wv => ∃ (k : Nat) (ga : Option Addr) (gc : Nat), iv = .int .i64 k ∧ k ≤ 20 ∧ Hid (Fam w3.heap.size wv (rlI B1 ⟨ga, ua2 + k, gc⟩ ua2 k ⟨#[111, 110, 101]⟩ :: rlI B2 ⟨ub1, ub2, ub3⟩ ub2 0 ⟨#[116, 119, 111]⟩ :: RS)) ∧ Hid (Mod (fun _ => False) w3 wv)) (fun iv _ => 20 - (intOf iv).toNat)
          case atStart => exact ⟨0, _, _, rfl, by omega, HFS, HMW⟩
          case round =>
            obtain ⟨k, ga, gc, rfl, hk, hf, hM⟩ := hrel
            obtain ⟨q1, _, _, xs0, q4, q5⟩ := hf.out.at_ (rlI B1 ⟨ga, ua2 + k, gc⟩ ua2 k ⟨#[111, 110, 101]⟩) (by simp)
            have c0 : wr.cell? ⟨B1, 0, none⟩ = some (.slice ga (ua2 + k) gc) := cell_at q1 rfl
            have hBl : B1 < wr.heap.size := (Array.getElem?_eq_some_iff.1 q1).1
            have Q1 := Lib.hid q1; have Q4 := Lib.hid q4; have Q5 := Lib.hid q5; have HBl := Lib.hid hBl
            clear q1 q4 q5 hBl
            by_cases hlk : k < 20
            · go_wp2_with (at_builtin; refine wpL_appendN (us := [.string ⟨#[111, 110, 101]⟩, .slice none 0 0, .slice none 0 0]) rfl (.tmp 147) (.tmp 150) 22 rfl tiR rfl Q5.out rfl rfl rfl (by show (ua2 + k + 1) * _ ≤ _; omega) (by show ua2 + k + 1 ≤ _; unfold maxLen; omega) ?_; intro a4 c4 w4 hO' hG' _
                           have HF4 : Hid (Fam w3.heap.size (w4.setCell ⟨B1, 0, none⟩ (.slice a4 (ua2 + k + 1) c4)) (rlI B1 ⟨a4, ua2 + k + 1, c4⟩ ua2 (k + 1) ⟨#[111, 110, 101]⟩ :: rlI B2 ⟨ub1, ub2, ub3⟩ ub2 0 ⟨#[116, 119, 111]⟩ :: RS)) :=
                             Lib.hid (rlI_step (l1 := []) hf.out Q4.out hO' hG')
                           have hq := hG'.mod.at Q1.out (fun e => (hf.out.at_ (rlI B1 ⟨ga, ua2 + k, gc⟩ ua2 k ⟨#[111, 110, 101]⟩) (by simp)).2.2.1 e)
                           have fz : w4.frozen? ⟨B1, 0, none⟩ = false := frozen_at hq
                           have c4' := cell_at (j := 0) hq rfl
                           have HM4 : Hid (Mod (fun _ => False) w3 (w4.setCell ⟨B1, 0, none⟩ (.slice a4 (ua2 + k + 1) c4))) := Lib.hid (hf.out.base (Nat.le_refl _) hM.out (i := rlI B1 ⟨ga, ua2 + k, gc⟩ ua2 k ⟨#[111, 110, 101]⟩) (by simp)
                             ((hG'.mod.mono (T := fun b => b = B1 ∨ blk ga = some b) (fun _ _ e => .inr e)).step ((Mod.refl (fun b => b = B1) w4).setCell (p := ⟨B1, 0, none⟩) (fun _ => rfl) _) (fun _ _ e => .inl e)))
                           clear hO' hG' hq hf hM c0)
              clear fz c4'
              go_roundw
              case rel => exact ⟨k + 1, a4, c4, by go_num, hlk, HF4, HM4⟩
              case measure => simp [intOf]; omega
            · obtain rfl : k = 20 := by omega
              clear Q1 Q4 Q5 HBl c0
              go_wp2_with fail
              obtain ⟨ga1, hga1⟩ : ∃ g, g = ga := ⟨_, rfl⟩
              obtain ⟨gc1, hgc1⟩ : ∃ g, g = gc := ⟨_, rfl⟩
              rw [← hga1, ← hgc1] at hf
              clear hga1 hgc1
              go_loopw [23] (fun iv wv => ∃ (k : Nat) (ga : Option Addr) (gc : Nat), iv = .int .i64 k ∧ k ≤ 20 ∧ Hid (Fam w3.heap.size wv (rlI B1 ⟨ga1, ua2 + 20, gc1⟩ ua2 20 ⟨#[111, 110, 101]⟩ :: rlI B2 ⟨ga, ub2 + k, gc⟩ ub2 k ⟨#[116, 119, 111]⟩ :: RS)) ∧ Hid (Mod (fun _ => False) w3 wv)) (fun iv _ => 20 - (intOf iv).toNat)
              case atStart => exact ⟨0, _, _, rfl, by omega, hf, hM⟩
              case round =>
                obtain ⟨k, ga, gc, rfl, hk, hf, hM⟩ := hrel
                obtain ⟨q1, _, _, xs0, q4, q5⟩ := hf.out.at_ (rlI B2 ⟨ga, ub2 + k, gc⟩ ub2 k ⟨#[116, 119, 111]⟩) (by simp)
                have c0 : wr.cell? ⟨B2, 0, none⟩ = some (.slice ga (ub2 + k) gc) := cell_at q1 rfl
                have hBl : B2 < wr.heap.size := (Array.getElem?_eq_some_iff.1 q1).1
                have Q1 := Lib.hid q1; have Q4 := Lib.hid q4; have Q5 := Lib.hid q5; have HBl := Lib.hid hBl
                clear q1 q4 q5 hBl
                by_cases hlk : k < 20
                · go_wp2_with (at_builtin; refine wpL_appendN (us := [.string ⟨#[116, 119, 111]⟩, .slice none 0 0, .slice none 0 0]) rfl (.tmp 158) (.tmp 161) 22 rfl tiR rfl Q5.out rfl rfl rfl (by show (ub2 + k + 1) * _ ≤ _; omega) (by show ub2 + k + 1 ≤ _; unfold maxLen; omega) ?_; intro a4 c4 w4 hO' hG' _
                               have HF4 : Hid (Fam w3.heap.size (w4.setCell ⟨B2, 0, none⟩ (.slice a4 (ub2 + k + 1) c4)) (rlI B1 ⟨ga1, ua2 + 20, gc1⟩ ua2 20 ⟨#[111, 110, 101]⟩ :: rlI B2 ⟨a4, ub2 + k + 1, c4⟩ ub2 (k + 1) ⟨#[116, 119, 111]⟩ :: RS)) :=
                                 Lib.hid (rlI_step (l1 := [rlI B1 ⟨ga1, ua2 + 20, gc1⟩ ua2 20 ⟨#[111, 110, 101]⟩]) hf.out Q4.out hO' hG')
                               have hq := hG'.mod.at Q1.out (fun e => (hf.out.at_ (rlI B2 ⟨ga, ub2 + k, gc⟩ ub2 k ⟨#[116, 119, 111]⟩) (by simp)).2.2.1 e)
                               have fz : w4.frozen? ⟨B2, 0, none⟩ = false := frozen_at hq
                               have c4' := cell_at (j := 0) hq rfl
                               have HM4 : Hid (Mod (fun _ => False) w3 (w4.setCell ⟨B2, 0, none⟩ (.slice a4 (ub2 + k + 1) c4))) := Lib.hid (hf.out.base (Nat.le_refl _) hM.out (i := rlI B2 ⟨ga, ub2 + k, gc⟩ ub2 k ⟨#[116, 119, 111]⟩) (by simp)
                                 ((hG'.mod.mono (T := fun b => b = B2 ∨ blk ga = some b) (fun _ _ e => .inr e)).step ((Mod.refl (fun b => b = B2) w4).setCell (p := ⟨B2, 0, none⟩) (fun _ => rfl) _) (fun _ _ e => .inl e)))
                               clear hO' hG' hq hf hM c0)
                  clear fz c4'
                  go_roundw
                  case rel => exact ⟨k + 1, a4, c4, by go_num, hlk, HF4, HM4⟩
                  case measure => simp [intOf]; omega
                · obtain rfl : k = 20 := by omega
                  clear Q1 Q4 Q5 HBl c0
                  go_wp2_with fail
                  obtain ⟨w10, hw10⟩ : ∃ v, v = wr := ⟨_, rfl⟩
                  rw [← hw10] at hf hM ⊢
                  clear hw10
                  go_loopw [24] (fun iv wv => ∃ k : Nat, iv = .int .i64 k ∧ k ≤ 20 ∧ wv = w10) (fun iv _ => 20 - (intOf iv).toNat)
                  case atStart => exact ⟨0, rfl, by omega, rfl⟩
                  case round =>
                    obtain ⟨k, rfl, hk, rfl⟩ := hrel
                    by_cases hlk : k < 20
                    · have d1 := hf.out.at_ (rlI B1 ⟨ga1, ua2 + 20, gc1⟩ ua2 20 ⟨#[111, 110, 101]⟩) (by simp)
                      have d2 := hf.out.at_ (rlI B2 ⟨ga, ub2 + 20, gc⟩ ub2 20 ⟨#[116, 119, 111]⟩) (by simp)
                      obtain ⟨b1, e1, z1⟩ := rlI_cell d1 hlk
                      obtain ⟨b2, e2, z2⟩ := rlI_cell d2 hlk
                      simp only at e1 e2
                      subst e1 e2
                      have y1 : wr.cell? ⟨B1, 0, none⟩ = some (.slice (some ⟨b1, 0, none⟩) (ua2 + 20) gc1) := cell_at d1.1 rfl
                      have y2 : wr.cell? ⟨B2, 0, none⟩ = some (.slice (some ⟨b2, 0, none⟩) (ub2 + 20) gc) := cell_at d2.1 rfl
                      clear d1 d2
                      go_wp2_with fail
                      go_roundw
                      case rel => exact ⟨k + 1, by go_num, hlk, trivial⟩
                      case measure => simp [intOf]; omega
                    · obtain rfl : k = 20 := by omega
                      go_wp2_with fail
                      have F10 : Hid (Fam w3.heap.size wr ((lsI la lc (dl.flatMap lsD) :: (dl.flatMap lsD).map tE) ++ bsI ba bc dl :: dl.map bI)) := by
                        have h := (hf.out.sub (List.sublist_cons_self ..)).sub (List.sublist_cons_self ..)
                        rw [HRS2.out] at h
                        exact Lib.hid h
                      have hap := apart_any (dl.flatMap lsD) la lc w3.heap.size wr (F10.out.sub (List.sublist_append_left _ _)) (by rw [hll.out]; omega) (lsD_few HOK.out)
                      rw [hll.out] at hap
                      refine hap.mono ?_
                      rintro e w11 ⟨rfl, hM11⟩
                      have HFB : Hid (Fam w3.heap.size w11 (blI ba bc (dl.map RD.b) :: (dl.map RD.b).map lE)) := Lib.hid (bs_fam (F10.out.mods hM11 (fun b ⟨s, hs, hb⟩ => ⟨tE s, List.mem_cons_of_mem _ (List.mem_map.2 ⟨s, hs, rfl⟩), hb⟩)))
                      have HM11 : Hid (Mod (fun _ => False) w3 w11) := Lib.hid (hM.out.step hM11 (fun b hb ⟨s, hs, e⟩ => by
                        have := F10.out.lo (tE s) (List.mem_append_left _ (List.mem_cons_of_mem _ (List.mem_map.2 ⟨s, hs, rfl⟩))) b e
                        omega))
                      have HB64 : Hid (∀ s ∈ dl.map RD.b, s.n ≤ 64) := Lib.hid (fun s hs => by
                        obtain ⟨d, hd, rfl⟩ := List.mem_map.1 hs
                        exact (HOK.out d hd).b)
                      have HBL : Hid ((dl.map RD.b).length = bn) := by rw [List.length_map]; exact hbl
                      obtain ⟨bs, hbs⟩ : ∃ bs, bs = dl.map RD.b := ⟨_, rfl⟩
                      rw [← hbs] at HFB HB64 HBL
                      clear hbs hap hM11 F10 hf hM hll hbl HOK HRS2 hl40
                      go_wp2_with fail
                      go_loopw [26, 27] (fun iv _ wv => ∃ i : Nat, iv = .int .i64 i ∧ i ≤ bn ∧ Hid (Fam w3.heap.size wv (blI ba bc bs :: (lAk 0 (bs.take i) ++ (bs.drop i).map lE))) ∧ Hid (Mod (fun _ => False) w3 wv)) (fun iv _ _ => bn - (intOf iv).toNat)
                      case atStart => exact ⟨0, rfl, Nat.zero_le _, HFB, HM11⟩
                      case round =>
                        obtain ⟨i, rfl, hi, hf, hM⟩ := hrel
                        by_cases hlt : i < bn
                        · have hib : i < bs.length := by have := HBL.out; omega
                          have hc0 := fun W (hW : (blI ba bc bs).P W) => bl_cell hW hib
                          have hs64 := HB64.out _ (List.getElem_mem hib)
                          obtain ⟨s, hs⟩ : ∃ s, s = bs[i] := ⟨_, rfl⟩
                          have hd : bs.drop i = s :: bs.drop (i + 1) := by rw [hs]; exact List.drop_eq_getElem_cons hib
                          have htk : bs.take (i + 1) = bs.take i ++ [s] := by rw [hs]; exact List.take_succ_eq_append_getElem hib
                          rw [← hs] at hc0 hs64
                          obtain ⟨lb, e, _⟩ := hc0 wr (hf.out.at_ (blI ba bc bs) (List.mem_cons_self ..))
                          subst e
                          have hc1 : ∀ W, (blI (some ⟨lb, 0, none⟩) bc bs).P W → W.cell? ⟨lb, i, none⟩ = some (.slice s.a s.n s.c) := fun W hW => by
                            obtain ⟨b, e, h⟩ := hc0 W hW
                            cases e
                            exact h
                          have HTK := Lib.hid htk; have HC := Lib.hid hc1
                          have HF1 : Hid (Fam w3.heap.size wr ((blI (some ⟨lb, 0, none⟩) bc bs :: lAk 0 (bs.take i)) ++ lMk 0 i s :: (bs.drop (i + 1)).map lE)) := by
                            have h := hf.out
                            rw [hd, List.map_cons] at h
                            exact Lib.hid (Fam.upd (l1 := blI (some ⟨lb, 0, none⟩) bc bs :: lAk 0 (bs.take i)) (l2 := (bs.drop (i + 1)).map lE) (i := lE s) (i' := lMk 0 i s) h (Mod.refl _ _) (lMk_zero (h.at_ (lE s) (by simp))) (fun b hb => .inl hb))
                          clear hs hd htk hf hc0 hc1 hib
                          obtain ⟨sa, sn, sc⟩ := s
                          simp only at HC hs64
                          go_wp2_with fail
                          go_loopw [27] (fun kv wv => ∃ k : Nat, kv = .int .i64 k ∧ k ≤ sn ∧ Hid (Fam w3.heap.size wv ((blI (some ⟨lb, 0, none⟩) bc bs :: lAk 0 (bs.take i)) ++ lMk k i ⟨sa, sn, sc⟩ :: (bs.drop (i + 1)).map lE)) ∧ Hid (Mod (fun _ => False) w3 wv)) (fun kv _ => sn - (intOf kv).toNat)
                          case atStart => exact ⟨0, rfl, Nat.zero_le _, HF1, hM⟩
                          case round =>
                            obtain ⟨k, rfl, hk, hf, hM⟩ := hrel
                            have c0 := HC.out wr (hf.out.at_ (blI (some ⟨lb, 0, none⟩) bc bs) (by simp))
                            by_cases hlk : k < sn
                            · obtain ⟨gb, ha, hxs, hfz⟩ := lMk_cells (hf.out.at_ (lMk k i ⟨sa, sn, sc⟩) (by simp)) hlk
                              simp only at ha
                              subst ha
                              obtain ⟨u0, x0⟩ := hxs 0 (by omega); obtain ⟨u1, x1⟩ := hxs 1 (by omega); obtain ⟨u2, x2⟩ := hxs 2 (by omega); obtain ⟨u3, x3⟩ := hxs 3 (by omega)
                              obtain ⟨u4, x4⟩ := hxs 4 (by omega); obtain ⟨u5, x5⟩ := hxs 5 (by omega); obtain ⟨u6, x6⟩ := hxs 6 (by omega); obtain ⟨u7, x7⟩ := hxs 7 (by omega)
                              simp only [Nat.add_zero] at x0
                              have f0 := hfz (k * 8); have f1 := hfz (k * 8 + 1); have f2 := hfz (k * 8 + 2); have f3 := hfz (k * 8 + 3)
                              have f4 := hfz (k * 8 + 4); have f5 := hfz (k * 8 + 5); have f6 := hfz (k * 8 + 6); have f7 := hfz (k * 8 + 7)
                              have HU := Lib.hid (hf.out.upd (i' := lMk (k + 1) i ⟨some ⟨gb, 0, none⟩, sn, sc⟩) (Mod.setN (S := fun b => blk (some (⟨gb, 0, none⟩ : Addr)) = some b) rfl (us := elL i k) (j := k * 8) (Mod.refl _ wr)) (lMk_step (hf.out.at_ (lMk k i ⟨some ⟨gb, 0, none⟩, sn, sc⟩) (by simp)) hlk rfl) (fun b hb => .inl hb))
                              have HM2 := Lib.hid (hf.out.base (Nat.le_refl _) hM.out (i := lMk k i ⟨some ⟨gb, 0, none⟩, sn, sc⟩) (by simp) (Mod.setN (S := fun b => blk (some (⟨gb, 0, none⟩ : Addr)) = some b) rfl (us := elL i k) (j := k * 8) (Mod.refl _ wr)))
                              have HE : Hid (setN wr gb (k * 8) (elL i k) = setN wr gb (k * 8) (elL i k)) := Lib.hid rfl
                              clear hfz hxs hf hM
                              go_wp2_with fail
                              simp only [elL, setN, Nat.add_assoc, Nat.reduceAdd] at HU HM2
                              go_roundw
                              case rel => exact ⟨k + 1, by go_num, hlk, HU, HM2⟩
                              case measure => simp [intOf]; omega
                            · obtain rfl : k = sn := by omega
                              have HF2 : Hid (Fam w3.heap.size wr (blI (some ⟨lb, 0, none⟩) bc bs :: (lAk 0 (bs.take (i + 1)) ++ (bs.drop (i + 1)).map lE))) := by
                                have h := hf.out
                                unfold lAk at h ⊢
                                rw [HTK.out, itA_append, List.append_assoc]
                                have e : (bs.take i).length = i := by rw [List.length_take]; have := HBL.out; omega
                                rw [Nat.zero_add, e]
                                exact Lib.hid h
                              clear hf
                              go_wp2_with fail
                              go_roundw
                              case rel => exact ⟨i + 1, by go_num, hlt, HF2, hM⟩
                              case measure => simp [intOf]; omega
                        · obtain rfl : i = bn := by omega
                          have HF3 : Hid (Fam w3.heap.size wr (blI ba bc bs :: blI none 0 [] :: (itGs 44 8 elL glL 20 0 [] [] ++ lAk 0 bs))) := by
                            have h := hf.out
                            rw [List.take_of_length_le (by have := HBL.out; omega), List.drop_eq_nil_of_le (by have := HBL.out; omega), List.map_nil, List.append_nil] at h
                            exact Lib.hid ((h.cons (i := blI none 0 []) (Mod.refl _ _) (Mine.Own.nil _ _ _) (fun b hb => by cases hb)).perm (List.Perm.swap _ _ _))
                          clear hf hi hlt HFB HM11
                          go_wp2_with fail
                          go_loopw [25, 28, 29, 30] (fun gv iv _ _ wv => ∃ (j : Nat) (gs : List Sl) (ga : Option Addr) (gc : Nat), iv = .int .i64 j ∧ gv = .slice ga j gc ∧ Hid (gs.length = j) ∧ j ≤ i ∧
                            Hid (Fam w3.heap.size wv (blI ba bc bs :: blI ga gc gs :: (itGs 44 8 elL glL 20 0 (bs.take j) gs ++ lAk j (bs.drop j)))) ∧ Hid (Mod (fun _ => False) w3 wv)) (fun _ iv _ _ _ => i - (intOf iv).toNat)
                          case atStart => exact ⟨0, [], none, 0, rfl, rfl, Lib.hid rfl, Nat.zero_le _, HF3, hM⟩
                          case round =>
                            obtain ⟨j, gs, ga, gc, rfl, rfl, hgl, hj, hf, hM⟩ := hrel
                            by_cases hlt : j < i
                            · have hib : j < bs.length := by have := HBL.out; omega
                              obtain ⟨lb, e, c0⟩ := bl_cell (hf.out.at_ (blI ba bc bs) (List.mem_cons_self ..)) hib
                              subst e
                              have hs64 := HB64.out _ (List.getElem_mem hib)
                              obtain ⟨s, hs⟩ : ∃ s, s = bs[j] := ⟨_, rfl⟩
                              have hd : bs.drop j = s :: bs.drop (j + 1) := by rw [hs]; exact List.drop_eq_getElem_cons hib
                              have htk : bs.take (j + 1) = bs.take j ++ [s] := by rw [hs]; exact List.take_succ_eq_append_getElem hib
                              rw [← hs] at c0 hs64
                              have HTK := Lib.hid htk
                              have HF1 : Hid (Fam w3.heap.size wr ((blI (some ⟨lb, 0, none⟩) bc bs :: blI ga gc gs :: itGs 44 8 elL glL 20 0 (bs.take j) gs) ++ itG 44 8 s s (mkL elL j s.n) (mkL glL j 0) :: lAk (j + 1) (bs.drop (j + 1)))) := by
                                have h := hf.out
                                rw [hd] at h
                                exact Lib.hid (Fam.upd (l1 := blI (some ⟨lb, 0, none⟩) bc bs :: blI ga gc gs :: itGs 44 8 elL glL 20 0 (bs.take j) gs) (l2 := lAk (j + 1) (bs.drop (j + 1))) (i := lMk s.n j s) (i' := itG 44 8 s s (mkL elL j s.n) []) h (Mod.refl _ _) (itG_of (h.at_ (lMk s.n j s) (by simp [lAk, itA]))) (fun b hb => .inl (hb.elim id id)))
                              clear hs hd htk hf hib
                              obtain ⟨sa, sn, sc⟩ := s
                              simp only at c0 hs64
                              go_wp2_with fail
                              go_loopw [29, 30] (fun gv kv wv => ∃ (k : Nat) (ga' : Option Addr) (gc' : Nat), kv = .int .i64 k ∧ gv = .slice ga' (sn + k) gc' ∧ k ≤ 20 ∧
                                Hid (Fam w3.heap.size wv ((blI (some ⟨lb, 0, none⟩) bc bs :: blI ga gc gs :: itGs 44 8 elL glL 20 0 (bs.take j) gs) ++ itG 44 8 ⟨sa, sn, sc⟩ ⟨ga', sn + k, gc'⟩ (mkL elL j sn) (mkL glL j k) :: lAk (j + 1) (bs.drop (j + 1)))) ∧
                                Hid (Mod (fun _ => False) w3 wv)) (fun _ kv _ => 20 - (intOf kv).toNat)
                              case atStart => exact ⟨0, sa, sc, rfl, rfl, by omega, HF1, hM⟩
                              case round =>
                                obtain ⟨k, ga', gc', rfl, rfl, hk, hf, hM⟩ := hrel
                                by_cases hlk : k < 20
                                · go_wp2_with (at_builtin; refine wpL_appendG (g := ⟨ga', sn + k, gc'⟩) (us := glL j k) rfl (.tmp 233) (.tmp 238) 36 rfl tiL hf.out rfl rfl rfl rfl (by show (sn + k + 1) * _ ≤ _; omega) (by show sn + k + 1 ≤ _; unfold maxLen; omega) ?_; intro a' c' w' hF' hM' hg'
                                               have HFN : Hid (Fam w3.heap.size w' ((blI (some ⟨lb, 0, none⟩) bc bs :: blI ga gc gs :: itGs 44 8 elL glL 20 0 (bs.take j) gs) ++ itG 44 8 ⟨sa, sn, sc⟩ ⟨a', sn + k + 1, c'⟩ (mkL elL j sn) (mkL glL j (k + 1)) :: lAk (j + 1) (bs.drop (j + 1)))) := by rw [mkL_succ]; exact Lib.hid hF'
                                               have HMN : Hid (Mod (fun _ => False) w3 w') := Lib.hid (hf.out.base (Nat.le_refl _) hM.out (i := itG 44 8 ⟨sa, sn, sc⟩ ⟨ga', sn + k, gc'⟩ (mkL elL j sn) (mkL glL j k)) (by simp) hM')
                                               clear hF' hM' hg' hf hM)
                                  go_roundw
                                  case rel => exact ⟨k + 1, a', c', by go_num, rfl, hlk, HFN, HMN⟩
                                  case measure => simp [intOf]; omega
                                · obtain rfl : k = 20 := by omega
                                  have hG1 : Mine.Own wr 36 1 ga gs.length gc (gs.map Sl.val) := hf.out.at_ (blI ga gc gs) (by simp)
                                  rw [hgl.out] at hG1
                                  have HG1 := Lib.hid hG1
                                  clear hG1
                                  go_wp2_with (at_builtin; refine wpL_appendN (us := [.slice ga' (sn + 20) gc']) rfl (.tmp 240) (.tmp 242) 32 rfl tiLs rfl HG1.out rfl rfl rfl (by show (j + 1) * _ ≤ _; omega) (by show j + 1 ≤ _; unfold maxLen; omega) ?_; intro a' c' w' hO' hG' _
                                               have hO2 : (blI a' c' (gs ++ [(⟨ga', sn + 20, gc'⟩ : Sl)])).P w' := by
                                                 show Mine.Own w' _ 1 a' (gs ++ [(⟨ga', sn + 20, gc'⟩ : Sl)]).length c' _
                                                 rw [List.length_append, List.map_append, hgl.out]; exact hO'
                                               have HFN : Hid (Fam w3.heap.size w' (blI (some ⟨lb, 0, none⟩) bc bs :: blI a' c' (gs ++ [⟨ga', sn + 20, gc'⟩]) :: (itGs 44 8 elL glL 20 0 (bs.take (j + 1)) (gs ++ [⟨ga', sn + 20, gc'⟩]) ++ lAk (j + 1) (bs.drop (j + 1))))) := by
                                                 have h := Fam.upd (l1 := [blI (some ⟨lb, 0, none⟩) bc bs]) (l2 := itGs 44 8 elL glL 20 0 (bs.take j) gs ++ itG 44 8 ⟨sa, sn, sc⟩ ⟨ga', sn + 20, gc'⟩ (mkL elL j sn) (mkL glL j 20) :: lAk (j + 1) (bs.drop (j + 1))) (i := blI ga gc gs) hf.out hG'.mod hO2 (fun b hb => by
                                                   rcases hG'.pos with e | ⟨g, e, hg⟩
                                                   · exact .inl (by show blk ga = some b; rw [← e]; exact hb)
                                                   · have hb : blk a' = some b := hb
                                                     rw [e] at hb; cases hb; exact .inr hg)
                                                 have e : (bs.take j).length = j := by rw [List.length_take]; have := HBL.out; omega
                                                 have e2 := itGs_snoc 44 8 elL glL 20 ⟨sa, sn, sc⟩ ⟨ga', sn + 20, gc'⟩ 0 (bs.take j) gs (hgl.out.trans e.symm)
                                                 rw [Nat.zero_add, e] at e2
                                                 rw [HTK.out, e2, List.append_assoc]
                                                 exact Lib.hid h
                                               have HMN : Hid (Mod (fun _ => False) w3 w') := Lib.hid (hf.out.base (Nat.le_refl _) hM.out (i := blI ga gc gs) (by simp) hG'.mod)
                                               have HLN : Hid ((gs ++ [(⟨ga', sn + 20, gc'⟩ : Sl)]).length = j + 1) := by rw [List.length_append, hgl.out]; exact Lib.hid rfl
                                               clear hO' hG' hO2 hf hM)
                                  go_roundw
                                  case rel => exact ⟨j + 1, _, a', c', by go_num, rfl, HLN, hlt, HFN, HMN⟩
                                  case measure => simp [intOf]; omega
                            · obtain rfl : j = i := by omega
                              have HF4 : Hid (Fam w3.heap.size wr (blI ba bc bs :: blI ga gc gs :: itGs 44 8 elL glL 20 0 bs gs)) := by
                                have h := hf.out
                                rw [List.take_of_length_le (by have := HBL.out; omega), List.drop_eq_nil_of_le (by have := HBL.out; omega)] at h
                                unfold lAk itA at h
                                rw [List.append_nil] at h
                                exact Lib.hid h
                              clear hf hj hlt HF3
                              go_wp2_with fail
                              obtain ⟨w12, hw12⟩ : ∃ v, v = wr := ⟨_, rfl⟩
                              rw [← hw12] at HF4 hM ⊢
                              clear hw12
                              go_loopw [31, 32, 33, 34] (fun iv _ _ _ wv => ∃ m : Nat, iv = .int .i64 m ∧ m ≤ j ∧ Hid (Mod (fun _ => False) w12 wv)) (fun iv _ _ _ _ => j - (intOf iv).toNat)
                              case atStart => exact ⟨0, rfl, Nat.zero_le _, Lib.hid (Mod.refl _ _)⟩
                              case round =>
                                obtain ⟨m, rfl, hm, hM12⟩ := hrel
                                by_cases hlt : m < j
                                · have hib : m < bs.length := by have := HBL.out; omega
                                  have hig : m < gs.length := by have := hgl.out; omega
                                  obtain ⟨lb, e1, _⟩ := bl_cell (HF4.out.at_ (blI ba bc bs) (by simp)) hib
                                  obtain ⟨gb, e2, _⟩ := bl_cell (HF4.out.at_ (blI ga gc gs) (by simp)) hig
                                  subst e1 e2
                                  have hc1 : ∀ W, Mod (fun _ => False) w12 W → W.cell? ⟨lb, m, none⟩ = some (.slice bs[m].a bs[m].n bs[m].c) ∧ W.cell? ⟨gb, m, none⟩ = some (.slice gs[m].a gs[m].n gs[m].c) ∧ (itG 44 8 bs[m] gs[m] (mkL elL m bs[m].n) (mkL glL m 20)).P W := fun W mm => by
                                    have hW := HF4.out.mod0 mm
                                    obtain ⟨b1, e1, h1⟩ := bl_cell (hW.at_ (blI (some ⟨lb, 0, none⟩) bc bs) (by simp)) hib
                                    obtain ⟨b2, e2, h2⟩ := bl_cell (hW.at_ (blI (some ⟨gb, 0, none⟩) gc gs) (by simp)) hig
                                    cases e1
                                    cases e2
                                    have hP := hW.at_ _ (List.mem_cons_of_mem _ (List.mem_cons_of_mem _ (itGs_mem (i := 0) (List.getElem?_eq_getElem hib) (List.getElem?_eq_getElem hig))))
                                    rw [Nat.zero_add] at hP
                                    exact ⟨h1, h2, hP⟩
                                  have hs64 := HB64.out _ (List.getElem_mem hib)
                                  have hgn : gs[m].n = bs[m].n + 20 := by
                                    have h1 := (hc1 w12 (Mod.refl _ _)).2.2.1.1
                                    rw [List.length_append, mkLl_len, mgL_len] at h1
                                    omega
                                  have HC := Lib.hid hc1
                                  clear hc1
                                  generalize bs[m] = s at *
                                  generalize gs[m] = g at *
                                  obtain ⟨sa, sn, sc⟩ := s
                                  obtain ⟨ga2, gn2, gc2⟩ := g
                                  simp only at HC hs64 hgn
                                  subst hgn
                                  clear hib hig
                                  have c0 := (HC.out wr hM12.out).1
                                  go_wp2_with fail
                                  clear c0
                                  go_loopw [33, 34] (fun kv _ wv => ∃ k : Nat, kv = .int .i64 k ∧ k ≤ sn + 20 ∧ Hid (Mod (fun _ => False) w12 wv)) (fun kv _ _ => sn + 20 - (intOf kv).toNat)
                                  case atStart => exact ⟨0, rfl, Nat.zero_le _, hM12⟩
                                  case round =>
                                    obtain ⟨k, rfl, hk, hM2⟩ := hrel
                                    by_cases hlk : k < sn + 20
                                    · obtain ⟨c0, c1, hP⟩ := HC.out wr hM2.out
                                      obtain ⟨b, kd, op, e, y0, y1, y2, y3, y4, y5, y6, y7, hko⟩ := gl_cells hP hlk
                                      simp only at e
                                      subst e
                                      by_cases hls : k < sn
                                      · obtain ⟨b', o, e, x0, x3⟩ := sl_cells hP hls
                                        simp only at e
                                        subst e
                                        have m2 : Mod (fun _ => False) wr (wr.alloc (.cells #[.int .i64 kd, .string ⟨#[]⟩, .slice none 0 0, .int .i64 op, .int .i64 0, .string ⟨#[]⟩, .int .i64 0, .string ⟨#[]⟩] 44)) := (Mod.refl _ wr).alloc _
                                        have HM3c := Lib.hid (hM2.out.trans m2)
                                        have c0 := m2.cell c0 id; have x0 := m2.cell x0 id; have x3 := m2.cell x3 id
                                        clear hP hko m2
                                        go_wp2_with fail
                                        go_roundw
                                        case rel => exact ⟨k + 1, by go_num, hlk, HM3c⟩
                                        case measure => simp [intOf]; omega
                                      · obtain ⟨rfl, rfl⟩ := hko hls
                                        have m2 : Mod (fun _ => False) wr (wr.alloc (.cells #[.int .i64 (1000 + (m : Int)), .string ⟨#[]⟩, .slice none 0 0, .int .i64 ((k : Int) - sn), .int .i64 0, .string ⟨#[]⟩, .int .i64 0, .string ⟨#[]⟩] 44)) := (Mod.refl _ wr).alloc _
                                        have HM3c := Lib.hid (hM2.out.trans m2)
                                        clear hP hko m2
                                        go_wp2_with fail
                                        go_roundw
                                        case rel => exact ⟨k + 1, by go_num, hlk, HM3c⟩
                                        case measure => simp [intOf]; omega
                                    · obtain rfl : k = sn + 20 := by omega
                                      have c0 := (HC.out wr hM2.out).1
                                      go_wp2_with fail
                                      go_roundw
                                      case rel => exact ⟨m + 1, by go_num, hlt, hM2⟩
                                      case measure => simp [intOf]; omega
                                · obtain rfl : m = j := by omega
                                  go_wp2_with fail
                                  have HMZ : Hid (Mod (fun _ => False) w3 wr) := Lib.hid (hM.out.trans hM12.out)
                                  refine (num9_any _ _).mono ?_
                                  rintro e w' ⟨rfl, rfl⟩
                                  by_cases hev : ev = 0
                                  · subst hev
                                    have p0 := cell_at (j := 0) ((HM3.out.trans HMZ.out).at HB0.out id) rfl
                                    have q0 := cell_at (j := 0) (HMZ.out.at HB2.out id) rfl
                                    go_wp2_with fail
                                    have hz1 := HM1.out.size
                                    refine (keptProgram_true rs _ (w1.heap.size + 2) gp cp ys w0 wr (HM3.out.trans HMZ.out) (by omega) (HO.out.mod HMZ.out (fun _ _ => id)) (HRS.out.mod0 HM0.out) HSM.out).mono ?_
                                    rintro e w15 ⟨rfl, hM15⟩
                                    go_wp2_with fail
                                    go_ret
                                    exact ⟨rfl, (HM0.out.trans (HM3.out.trans HMZ.out)).step hM15 (fun i hi e => by
                                      have e' : w1.heap.size + 2 ≤ i := e
                                      have := HM0.out.size
                                      omega)⟩
                                  · have hb : (ev != 0) = true := by simpa using hev
                                    go_wp2_with fail
                                    go_ret
                                    exact ⟨rfl, HM0.out.trans (HM3.out.trans HMZ.out)⟩
end Go.Proofs.YtphgglnkdfndiaaDoor
