/- SchemaOrder answers true of every program of bulk at most 1048576, where the tables of utf8 lie: the walk. -/
import Derived.Test.YteecbbnpgmceiaaDoorSchO
namespace Go.Proofs.YteecbbnpgmceiaaDoor
open Go Go.RowKit Go.Mine
set_option maxHeartbeats 8000000
set_option maxRecDepth 100000
set_option linter.unusedVariables false

theorem with_nil : psOf (withL [] []) = [] := by
  have h : sortN [] = [] := (sortN_perm []).eq_nil
  show (sortN []).map _ = []
  rw [h]; rfl
theorem with_len {rs : List Rm} {ps : List PdZ} (h : withL rs [] = some ps) : ps.length ≤ (usesAll rs).length := by
  unfold withL at h
  cases hn : notedL [] (usesAll rs) with
  | none => rw [hn] at h; cases h
  | some L =>
    rw [hn] at h
    simp only [Option.bind_some, notedZ, Option.map_some, Option.some.injEq] at h
    subst h
    have h1 := notedL_le hn
    unfold predsZ
    rw [List.length_map, (sortN_perm _).length_eq, List.length_map]
    unfold toZ
    rw [List.length_map]
    simpa using h1
theorem schOrder_walk (rs : List Rm) (v0 : Value) (z : Int) (w : World) (hr : RsAt w v0 rs) (hcap : ∀ a n c, v0 = .slice a n c → n ≤ c) (hn : rs.length ≤ 2 ^ 20) (hso : ∀ r ∈ rs, SchOk r) (hz : In64 z) (hT : Lib.Utf8Tabs 1 2 w) :
    Calls Tryd.prog 7 #[.agg #[v0], .int .i64 z] w fun e w' => e = .returned (.bool true) ∧ Mod (fun _ => False) w w' := by
  obtain ⟨ad, c, xv, rfl, hx, hrx, hxt⟩ := id hr
  have hnc : rs.length ≤ c := hcap _ _ _ rfl
  have hxl : xv.length = rs.length := by rw [← hx, List.length_map]
  have HP : Hid (∀ W, Mod (fun _ => False) (w.alloc (.cells #[.slice ad rs.length c] 33)) W → W.cell? ⟨w.heap.size, 0, none⟩ = some (.slice ad rs.length c)) := fun W m => m.cell (cell_new rfl) id
  have hmA : Mod (fun _ => False) w (w.alloc (.cells #[.slice ad rs.length c] 33)) := (Mod.refl _ w).alloc _
  have HAW := Lib.hid (fun W (m : Mod (fun _ => False) w W) => L11.awake11_true W (tabs_mod hT m))
  have HCK : Hid (∀ (W : World) (qs : List Rm) (v : Value), (∀ r ∈ qs, r ∈ rs) → qs.length ≤ rs.length → RsAt W v qs → Calls Tryd.prog 20 #[.agg #[v]] W fun e w' => e = .returned (.tuple #[.int .i64 (checkL qs).1, .int .i64 (checkL qs).2]) ∧ Mod (fun _ => False) W w') :=
    fun W qs v h1 h2 h3 => Check_any qs v W h3 (by omega) (fun r hr => hso r (h1 r hr))
  have HWI : Hid (∀ (W : World) (qs : List Rm) (v : Value), qs.Perm rs → RsAt W v qs → Calls Tryd.prog 39 #[.agg #[v]] W fun e w' => (∃ a, e = .returned (.tuple #[.slice a (psOf (withL rs [])).length (psOf (withL rs [])).length, .int .i64 (ffOf (withL rs []))]) ∧ Rd w' a (pzsC (psOf (withL rs [])))) ∧ Mod (fun _ => False) W w') := by
    intro W qs v hp h3
    rw [← with_perm hp]
    have hq : ∀ r ∈ qs, SchOk r := fun r hr => hso r (hp.mem_iff.1 hr)
    exact (Arities_any qs v W h3 (by rw [hp.length_eq]; exact hn) (fun r hr => (hq r hr).u) (usesAll_le hq (by rw [hp.length_eq]; exact hn))).mono fun e w' ⟨h1, h2⟩ => ⟨h1.flat, h2⟩
  have F1 : Hid ((psOf (withL rs [])).Pairwise fun x y => bl x.1 < bl y.1) := by
    show List.Pairwise _ _
    cases h : withL rs [] with
    | none => exact List.Pairwise.nil
    | some ps => exact with_rising0 h
  have F2 : Hid (ffOf (withL rs []) = 0 ∧ ((psOf (withL rs [])).map (·.2.2)).sum = rs.length ∨ ffOf (withL rs []) = 110 ∧ psOf (withL rs []) = []) := by
    show _ ∨ _
    cases h : withL rs [] with
    | none => exact .inr ⟨rfl, rfl⟩
    | some ps => exact .inl ⟨rfl, with_sum h⟩
  have F3 : Hid ((checkL rs).2 = 0 → ffOf (withL rs []) = 0) := by
    show _ → _
    intro h
    obtain ⟨ps, h1⟩ := with_check h
    rw [h1]; rfl
  have F4 : Hid (rs.length = 0 → (checkL rs).2 = 0 ∧ ffOf (withL rs []) = 0 ∧ psOf (withL rs []) = []) := by
    show _ → _
    intro h
    obtain rfl := List.eq_nil_of_length_eq_zero h
    exact ⟨rfl, rfl, with_nil⟩
  have hpsl : (psOf (withL rs [])).length ≤ 2 ^ 41 := by
    cases h : withL rs [] with
    | none => exact Nat.zero_le _
    | some ps => exact Nat.le_trans (with_len h) (usesAll_le hso hn)
  generalize withL rs [] = R at *
  generalize psOf R = ps at *
  generalize ffOf R = ff at *
  have HR0 := Lib.hid hr; have HX := Lib.hid hx; have HR := Lib.hid hrx; have HXT := Lib.hid hxt; have HMA := Lib.hid hmA; have HXL := Lib.hid hxl; have HNC := Lib.hid hnc; have HSO := Lib.hid hso
  have HN := Lib.hid L11.num_any
  clear hr hx hrx hxt hcap hmA hxl hnc hso hT
  go_enter Tryd.func7, Tryd.ntmps7
  go_wp2_with fail
  generalize (w.alloc (.cells #[.slice ad rs.length c] 33)) = wA at *
  refine (HAW.out _ HMA.out).mono ?_
  rintro e w1 ⟨rfl, hM1⟩
  have HM1 := Lib.hid hM1
  have p0 := HP.out _ hM1
  clear hM1 HAW
  go_wp2_with fail
  refine (HCK.out w1 rs _ (fun r h => h) (Nat.le_refl _) (HR0.out.mod0 (HMA.out.trans HM1.out))).mono ?_
  rintro e w2 ⟨rfl, hM2⟩
  have HM2 := Lib.hid (HM1.out.trans hM2)
  clear hM2 p0
  have p0 := HP.out _ HM2.out
  generalize hE : (checkL rs).2 = E at *
  generalize hE1 : (checkL rs).1 = E1 at *
  have HE := Lib.hid hE
  clear hE hE1 HM1
  go_wp2_with fail
  refine (HWI.out w2 rs _ (List.Perm.refl _) (HR0.out.mod0 (HMA.out.trans HM2.out))).mono ?_
  rintro e w3 ⟨⟨la, rfl, hL3⟩, hM3⟩
  have HM3 := Lib.hid (HM2.out.trans hM3); have HL3 := Lib.hid hL3
  clear hM3 p0 hL3 HM2
  go_wp2_with fail
  go_loopw [10] (fun iv wr => ∃ k : Nat, iv = .int .i64 k ∧ 1 ≤ k ∧ (k ≤ ps.length ∨ k = 1) ∧ Hid (Mod (fun _ => False) w3 wr)) (fun iv _ => ps.length - (intOf iv).toNat)
  case atStart => exact ⟨1, rfl, by omega, .inr rfl, Lib.hid (Mod.refl _ _)⟩
  case round =>
    obtain ⟨k, rfl, hk1, hk, hM⟩ := hrel
    by_cases hlt : k < ps.length
    · have hq1 : k - 1 < ps.length := by omega
      obtain ⟨b, o, rfl, x0, _, _⟩ := rd_cellZ (HL3.out.mod hM.out (fun _ _ => id)) hlt
      obtain ⟨b', o', e', y0, _, _⟩ := rd_cellZ (HL3.out.mod hM.out (fun _ _ => id)) hq1
      cases e'
      have hkn : ((k : Int) - 1).toNat = k - 1 := by omega
      have hlt2 := List.pairwise_iff_getElem.1 F1.out (k - 1) k hq1 hlt (by omega)
      obtain ⟨hb1, hb2⟩ := bl_lt hlt2
      generalize ps[k].1 = xk at *
      generalize ps[k - 1].1 = xj at *
      clear hlt2
      go_wp2_with fail
      refine wp_region_ord (fun W => W.cell? ⟨b, o + k * 3, none⟩ = some (.string xk) ∧ W.cell? ⟨b, o + (k - 1) * 3, none⟩ = some (.string xj)) [(0, 0), (0, 1), (0, 2), (0, 3), (1, 4), (0, 5), (0, 6), (0, 7), (0, 8), (0, 9), (1, 10), (0, 11)] (by kernel_rfl) (by kernel_rfl) ?_
      go_wp2_with (first
        | (refine ord_pure rfl rfl rfl (fun K hK => ?_); go_big_quiet_op; refine hK _ ?_; clear hK K)
                                                                | (refine ord_skip rfl rfl ?_; simp only [Act.put, List.setIfInBounds_toArray, List.set_cons_zero, List.set_cons_succ])
                                                                | (refine ord_held rfl rfl rfl (⟨x0, y0⟩) (fun K hK => ?_); apply Exists.intro; refine ⟨fun w' hs => ?_, hK _ ?_⟩; (revert hs; dsimp only; (try simp only [and_imp]); intros; go_simp; rfl); clear hK K)
                                                                | (refine ord_keep rfl rfl (⟨x0, y0⟩) (fun K hK => ?_))
                                                                | (refine ord_drop rfl rfl (fun K hK => ?_))
                                                                | (refine ord_nil ?_))
      go_roundw
      case rel => exact ⟨k + 1, by go_num, by omega, by omega, Lib.hid hM.out.drew⟩
      case measure => simp [intOf]; omega
    · obtain ⟨w4, hw4⟩ : ∃ v, v = wr := ⟨_, rfl⟩
      have HM4 := Lib.hid (HM3.out.trans hM.out); have HL4 := Lib.hid (HL3.out.mod hM.out (fun _ _ => id))
      rw [← hw4] at HM4 HL4 ⊢
      clear hw4 hM HM3 HL3
      by_cases hn0 : rs.length = 0
      · obtain ⟨h1, h2, h3⟩ := F4.out hn0
        have h4 : E = 0 := HE.out ▸ h1
        subst h2 h3 h4
        go_wp2_with (first
          | (go_at_call 22; refine (HN.out _ _).mono ?_; rintro e w' ⟨rfl, rfl⟩))
        go_ret
        exact ⟨rfl, HMA.out.trans HM4.out⟩
      · go_upto_if 74 with fail
        clear hk hk1 hlt
        go_cut [11] (fun v wx => ∃ k : Nat, v = .int .i64 k ∧ k < rs.length ∧ wx = w4)
        case first =>
          have hpos : (0 : Int) < rs.length := by omega
          have ht1 := Int.tmod_lt_of_pos z hpos
          have ht2 := Int.lt_tmod_of_pos z hpos
          have HT1 := Lib.hid ht1; have HT2 := Lib.hid ht2
          by_cases hneg : z.tmod rs.length < 0
          · go_wp2_with fail
            go_meet
            case rel =>
              have h1 := HT1.out
              have h2 := HT2.out
              exact ⟨(z.tmod rs.length + rs.length).toNat, by rw [Int.toNat_of_nonneg (by omega)], by omega, rfl⟩
          · go_wp2_with fail
            go_meet
            case rel =>
              have h1 := HT1.out
              exact ⟨(z.tmod rs.length).toNat, by rw [Int.toNat_of_nonneg (by omega)], by omega, rfl⟩
        case rest =>
          obtain ⟨k, rfl, hk, hwc⟩ := hcut
          obtain ⟨u, hu⟩ : ∃ u, u = wc := ⟨_, rfl⟩
          rw [hwc] at hu ⊢
          rw [← hu] at HM4 HL4 ⊢
          clear hwc hu
          have hMu := HMA.out.trans HM4.out
          have HMU := Lib.hid hMu
          have htu : ∀ y ∈ xv, TsAt u y.2.1 y.1.head.terms ∧ LsAt u y.2.2 y.1.body := fun y hy => ⟨(HXT.out y hy).1.mod0 hMu, (HXT.out y hy).2.mod0 hMu⟩
          have HTU := Lib.hid htu
          have HPC : Hid (∀ W, Mod (fun _ => False) u W → W.cell? ⟨w.heap.size, 0, none⟩ = some (.slice ad rs.length c)) := fun W m => HP.out W (HM4.out.trans m)
          obtain ⟨A1, C1, N1, hN1, hsl1, hs1⟩ := sl_lo (HR.out.mod hMu (fun _ _ => id)) HXL.out HNC.out (Nat.le_of_lt hk) htu (z := (k : Int)) rfl
          obtain ⟨A2, C2, N2, hN2, hsl2, hs2⟩ := sl_hi (HR.out.mod hMu (fun _ _ => id)) HXL.out HNC.out (Nat.le_of_lt hk) htu
          have HSRC1 := Lib.hid hs1; have HSRC2 := Lib.hid hs2
          obtain ⟨tr, htr⟩ : ∃ tr, tr = rs.drop k ++ rs.take k := ⟨_, rfl⟩
          have hperm : tr.Perm rs := by
            rw [htr]
            exact List.perm_append_comm.trans (by rw [List.take_append_drop])
          have HPERM := Lib.hid hperm
          have HMAP : Hid ((xv.drop k ++ xv.take k).map Prod.fst = tr) := Lib.hid (by rw [htr, ← HX.out, List.map_append, List.map_drop, List.map_take])
          have HNN : Hid (tr.length = N1 + N2) := Lib.hid (by rw [hperm.length_eq, hN1, hN2]; omega)
          have HTT : Hid (∀ y ∈ xv.drop k ++ xv.take k, TsAt u y.2.1 y.1.head.terms ∧ LsAt u y.2.2 y.1.body) := Lib.hid (fun y hy => by
            rcases List.mem_append.1 hy with hy | hy
            · exact htu y (List.mem_of_mem_drop hy)
            · exact htu y (List.mem_of_mem_take hy))
          have hb1 : N1 ≤ 2 ^ 20 := by omega
          have hb2 : N2 ≤ 2 ^ 20 := by omega
          have HK := Lib.hid hk
          clear hs1 hs2 htu hMu hN1 hN2 htr hperm hk
          go_wp2_with fail
          go_cut [12] (fun v wx => ∃ g a c', v = .pointer (some ⟨g, 0, none⟩) ∧ Hid (wx.cell? ⟨g, 0, none⟩ = some (.slice a tr.length c')) ∧ Hid (RsAt wx (.slice a tr.length c') tr) ∧ Hid (Mod (fun _ => False) u wx))
          case first =>
            as_aux_lemma =>
            clear HWI HCK F1 F2 F3 F4 HSO HR0
            -- BEGIN16
            refine wp_region_ordF (fun W => W.cell? ⟨w.heap.size, 0, none⟩ = some (.slice ad rs.length c)) (2, 12) [((0, 1), 0), ((1, 2), 0), ((0, 3), 0), ((0, 4), 0), ((0, 6), 0), ((1, 7), 0), ((0, 8), 0), ((0, 9), 0), ((2, 0), 1), ((2, 5), 1), ((3, 10), 1), ((0, 11), 0), ((3, 13), 2)] (by kernel_rfl) (by kernel_rfl) ?_
            have HC0 := Lib.hid ((Mod.refl (fun _ => False) u).drew)
            generalize u.drew = x0 at *
            go_wp2_with (first
              | (refine ordF_pure rfl rfl rfl (fun K hK => ?_); go_big_quiet_op; refine hK _ ?_; clear hK K)
                                                                | (refine ordF_skip rfl rfl ?_; simp only [Act.put, List.setIfInBounds_toArray, List.set_cons_zero, List.set_cons_succ])
                                                                | (refine ordF_held rfl rfl rfl (HPC.out _ HC0.out) (fun K hK => ?_); apply Exists.intro; refine ⟨fun w' hs => ?_, hK _ ?_⟩; (revert hs; dsimp only; (try simp only [and_imp]); intros; go_simp; rfl); clear hK K)
                                                                | (refine ordF_keep rfl rfl (HPC.out _ HC0.out) (fun K hK => ?_))
                                                                | (refine ordF_drop rfl rfl (fun K hK => ?_))
                                                                | (refine ordF_nil ?_))
            refine ordF_either ?_ ?_
            · as_aux_lemma =>
              dsimp only [List.map]
              go_wp2_with (first
                | (refine ord_pure rfl rfl rfl (fun K hK => ?_); go_big_quiet_op; refine hK _ ?_; clear hK K)
                                                                | (refine ord_skip rfl rfl ?_; simp only [Act.put, List.setIfInBounds_toArray, List.set_cons_zero, List.set_cons_succ])
                                                                | (refine ord_held rfl rfl rfl (HPC.out _ HC0.out) (fun K hK => ?_); apply Exists.intro; refine ⟨fun w' hs => ?_, hK _ ?_⟩; (revert hs; dsimp only; (try simp only [and_imp]); intros; go_simp; rfl); clear hK K)
                                                                | (refine ord_keep rfl rfl (HPC.out _ HC0.out) (fun K hK => ?_))
                                                                | (refine ord_drop rfl rfl (fun K hK => ?_))
                                                                | (refine ord_nil ?_))
              obtain ⟨x1, hx⟩ : ∃ v, v = (x0).alloc (.cells #[.slice none 0 0] 33) := ⟨_, rfl⟩
              have HC1 : Hid (Mod (fun _ => False) u x1) := Lib.hid (by rw [hx]; exact HC0.out.alloc _)
              have HB1 : Hid (x1.heap[x0.heap.size]? = some (.cells #[.slice none 0 0] 33 (0, 0))) := Lib.hid (by rw [hx]; exact heap_alloc_new (x0) _)
              rw [← hx]
              clear hx
              refine hK _ _ (HPC.out _ HC1.out) ?_; clear hK K; (try simp only [Act.put, List.setIfInBounds_toArray, List.set_cons_zero, List.set_cons_succ])
              go_wp2_with (first
                | (refine ord_pure rfl rfl rfl (fun K hK => ?_); go_big_quiet_op; refine hK _ ?_; clear hK K)
                                                                | (refine ord_skip rfl rfl ?_; simp only [Act.put, List.setIfInBounds_toArray, List.set_cons_zero, List.set_cons_succ])
                                                                | (refine ord_held rfl rfl rfl (HPC.out _ HC1.out) (fun K hK => ?_); apply Exists.intro; refine ⟨fun w' hs => ?_, hK _ ?_⟩; (revert hs; dsimp only; (try simp only [and_imp]); intros; go_simp; rfl); clear hK K)
                                                                | (refine ord_keep rfl rfl (HPC.out _ HC1.out) (fun K hK => ?_))
                                                                | (refine ord_drop rfl rfl (fun K hK => ?_))
                                                                | (refine ord_nil ?_))
              obtain ⟨x2, hx⟩ : ∃ v, v = (x1).alloc (.cells #[] 42) := ⟨_, rfl⟩
              have HC2 : Hid (Mod (fun _ => False) u x2) := Lib.hid (by rw [hx]; exact HC1.out.alloc _)
              have HO2 : Hid (Mine.Own x2 42 3 (some ⟨x1.heap.size, 0, none⟩) 0 0 []) := Lib.hid (by rw [hx]; have := Mine.Own.made (x1) 42 3 #[] 0 0 (by omega) (by unfold maxLen; omega) rfl; simpa using this)
              have HF2 : Hid (∀ b, blk (some (⟨x1.heap.size, 0, none⟩ : Addr)) = some b → u.heap.size ≤ b) := Lib.hid (fun b hb => by simp at hb; have := HC1.out.size; omega)
              have HB2 : Hid (x2.heap[x0.heap.size]? = some (.cells #[.slice none 0 0] 33 (0, 0))) := Lib.hid (by rw [hx]; exact ((Mod.refl (fun _ => False) (x1)).alloc _).at HB1.out id)
              rw [← hx]
              clear hx
              refine hK _ _ (HPC.out _ HC2.out) ?_; clear hK K; (try simp only [Act.put, List.setIfInBounds_toArray, List.set_cons_zero, List.set_cons_succ])
              go_wp2_with (first
                | (refine ord_keep rfl rfl (HPC.out _ HC2.out) (fun K hK => ?_); refine wpO_append (.tmp 78) (.tmp 82) 31 31 rfl tiR rfl HO2.out rfl (HSRC1.out _ HC2.out) (by omega) (by unfold maxLen; omega) ?_; intro a3 c3 x3 hO hG _
                   simp only [Nat.zero_add, List.nil_append] at hO ⊢
                   have HO3 := Lib.hid hO
                   have HC3 : Hid (Mod (fun _ => False) u x3) := Lib.hid (HC2.out.step hG.mod (fun i hi hs => by have := HF2.out i hs; omega))
                   have HF3 : Hid (∀ b, blk a3 = some b → u.heap.size ≤ b) := Lib.hid (fun b hb => by
                     rcases hG.pos with e | ⟨g, e, hg⟩
                     · exact HF2.out b (by rw [← e]; exact hb)
                     · rw [e] at hb; cases hb; exact Nat.le_trans HC2.out.size hg)
                   have HB3 : Hid (x3.heap[x0.heap.size]? = some (.cells #[.slice none 0 0] 33 (0, 0))) := Lib.hid (hG.mod.at HB2.out (own_ne HO2.out HB2.out (by decide)))
                   clear hO hG
                   refine hK _ _ (HPC.out _ HC3.out) ?_; clear hK K; (try simp only [Act.put, List.setIfInBounds_toArray, List.set_cons_zero, List.set_cons_succ])))
              go_wp2_with (first
                | (refine ord_drop rfl rfl (fun K hK => ?_); refine wpO_append (.tmp 83) (.tmp 87) 31 31 rfl tiR rfl HO3.out rfl (HSRC2.out _ HC3.out) (by omega) (by unfold maxLen; omega) ?_; intro a4 c4 x4 hO hG _
                   have HO4 := Lib.hid hO
                   have HC4 : Hid (Mod (fun _ => False) u x4) := Lib.hid (HC3.out.step hG.mod (fun i hi hs => by have := HF3.out i hs; omega))
                   have HF4 : Hid (∀ b, blk a4 = some b → u.heap.size ≤ b) := Lib.hid (fun b hb => by
                     rcases hG.pos with e | ⟨g, e, hg⟩
                     · exact HF3.out b (by rw [← e]; exact hb)
                     · rw [e] at hb; cases hb; exact Nat.le_trans HC3.out.size hg)
                   have HB4 : Hid (x4.heap[x0.heap.size]? = some (.cells #[.slice none 0 0] 33 (0, 0))) := Lib.hid (hG.mod.at HB3.out (own_ne HO3.out HB3.out (by decide)))
                   clear hO hG
                   refine hK _ _ ?_; clear hK K; (try simp only [Act.put, List.setIfInBounds_toArray, List.set_cons_zero, List.set_cons_succ])))
              have q0 := cell_at (j := 0) HB4.out rfl
              have fz := frozen_at (j := 0) HB4.out
              go_wp2_with (first
                | (refine ord_pure rfl rfl rfl (fun K hK => ?_); go_big_quiet_op; refine hK _ ?_; clear hK K)
                                                                | (refine ord_skip rfl rfl ?_; simp only [Act.put, List.setIfInBounds_toArray, List.set_cons_zero, List.set_cons_succ])
                                                                | (refine ord_held rfl rfl rfl (HPC.out _ HC4.out) (fun K hK => ?_); apply Exists.intro; refine ⟨fun w' hs => ?_, hK _ ?_⟩; (revert hs; dsimp only; (try simp only [and_imp]); intros; go_simp; rfl); clear hK K)
                                                                | (refine ord_keep rfl rfl (HPC.out _ HC4.out) (fun K hK => ?_))
                                                                | (refine ord_drop rfl rfl (fun K hK => ?_))
                                                                | (refine ord_nil ?_))
              clear q0 fz
              go_meet
              case rel => exact app_fin HB4.out HO4.out HC4.out HMAP.out HNN.out HTT.out HC0.out.size
            · go_wp2_with (first
                | (refine ordF_pure rfl rfl rfl (fun K hK => ?_); go_big_quiet_op; refine hK _ ?_; clear hK K)
                                                                | (refine ordF_skip rfl rfl ?_; simp only [Act.put, List.setIfInBounds_toArray, List.set_cons_zero, List.set_cons_succ])
                                                                | (refine ordF_held rfl rfl rfl (HPC.out _ HC0.out) (fun K hK => ?_); apply Exists.intro; refine ⟨fun w' hs => ?_, hK _ ?_⟩; (revert hs; dsimp only; (try simp only [and_imp]); intros; go_simp; rfl); clear hK K)
                                                                | (refine ordF_keep rfl rfl (HPC.out _ HC0.out) (fun K hK => ?_))
                                                                | (refine ordF_drop rfl rfl (fun K hK => ?_))
                                                                | (refine ordF_nil ?_))
              obtain ⟨x1, hx⟩ : ∃ v, v = (x0).alloc (.cells #[] 42) := ⟨_, rfl⟩
              have HC1 : Hid (Mod (fun _ => False) u x1) := Lib.hid (by rw [hx]; exact HC0.out.alloc _)
              have HO1 : Hid (Mine.Own x1 42 3 (some ⟨x0.heap.size, 0, none⟩) 0 0 []) := Lib.hid (by rw [hx]; have := Mine.Own.made (x0) 42 3 #[] 0 0 (by omega) (by unfold maxLen; omega) rfl; simpa using this)
              have HF1 : Hid (∀ b, blk (some (⟨x0.heap.size, 0, none⟩ : Addr)) = some b → u.heap.size ≤ b) := Lib.hid (fun b hb => by simp at hb; have := HC0.out.size; omega)
              rw [← hx]
              clear hx
              refine hK _ _ (HPC.out _ HC1.out) ?_; clear hK K; (try simp only [Act.put, List.setIfInBounds_toArray, List.set_cons_zero, List.set_cons_succ])
              go_wp2_with (first
                | (refine ordF_pure rfl rfl rfl (fun K hK => ?_); go_big_quiet_op; refine hK _ ?_; clear hK K)
                                                                | (refine ordF_skip rfl rfl ?_; simp only [Act.put, List.setIfInBounds_toArray, List.set_cons_zero, List.set_cons_succ])
                                                                | (refine ordF_held rfl rfl rfl (HPC.out _ HC1.out) (fun K hK => ?_); apply Exists.intro; refine ⟨fun w' hs => ?_, hK _ ?_⟩; (revert hs; dsimp only; (try simp only [and_imp]); intros; go_simp; rfl); clear hK K)
                                                                | (refine ordF_keep rfl rfl (HPC.out _ HC1.out) (fun K hK => ?_))
                                                                | (refine ordF_drop rfl rfl (fun K hK => ?_))
                                                                | (refine ordF_nil ?_))
              refine ordF_either ?_ ?_
              · as_aux_lemma =>
                dsimp only [List.map]
                go_wp2_with (first
                  | (refine ord_pure rfl rfl rfl (fun K hK => ?_); go_big_quiet_op; refine hK _ ?_; clear hK K)
                                                                | (refine ord_skip rfl rfl ?_; simp only [Act.put, List.setIfInBounds_toArray, List.set_cons_zero, List.set_cons_succ])
                                                                | (refine ord_held rfl rfl rfl (HPC.out _ HC1.out) (fun K hK => ?_); apply Exists.intro; refine ⟨fun w' hs => ?_, hK _ ?_⟩; (revert hs; dsimp only; (try simp only [and_imp]); intros; go_simp; rfl); clear hK K)
                                                                | (refine ord_keep rfl rfl (HPC.out _ HC1.out) (fun K hK => ?_))
                                                                | (refine ord_drop rfl rfl (fun K hK => ?_))
                                                                | (refine ord_nil ?_))
                obtain ⟨x2, hx⟩ : ∃ v, v = (x1).alloc (.cells #[.slice none 0 0] 33) := ⟨_, rfl⟩
                have HC2 : Hid (Mod (fun _ => False) u x2) := Lib.hid (by rw [hx]; exact HC1.out.alloc _)
                have HB2 : Hid (x2.heap[x1.heap.size]? = some (.cells #[.slice none 0 0] 33 (0, 0))) := Lib.hid (by rw [hx]; exact heap_alloc_new (x1) _)
                have HO2 := Lib.hid (show Mine.Own x2 42 3 (some ⟨x0.heap.size, 0, none⟩) 0 0 [] from by rw [hx]; exact HO1.out.mod ((Mod.refl (fun _ => False) (x1)).alloc _) (fun _ _ => id))
                rw [← hx]
                clear hx
                refine hK _ _ (HPC.out _ HC2.out) ?_; clear hK K; (try simp only [Act.put, List.setIfInBounds_toArray, List.set_cons_zero, List.set_cons_succ])
                go_wp2_with (first
                  | (refine ord_keep rfl rfl (HPC.out _ HC2.out) (fun K hK => ?_); refine wpO_append (.tmp 78) (.tmp 82) 31 31 rfl tiR rfl HO2.out rfl (HSRC1.out _ HC2.out) (by omega) (by unfold maxLen; omega) ?_; intro a3 c3 x3 hO hG _
                     simp only [Nat.zero_add, List.nil_append] at hO ⊢
                     have HO3 := Lib.hid hO
                     have HC3 : Hid (Mod (fun _ => False) u x3) := Lib.hid (HC2.out.step hG.mod (fun i hi hs => by have := HF1.out i hs; omega))
                     have HF3 : Hid (∀ b, blk a3 = some b → u.heap.size ≤ b) := Lib.hid (fun b hb => by
                       rcases hG.pos with e | ⟨g, e, hg⟩
                       · exact HF1.out b (by rw [← e]; exact hb)
                       · rw [e] at hb; cases hb; exact Nat.le_trans HC2.out.size hg)
                     have HB3 : Hid (x3.heap[x1.heap.size]? = some (.cells #[.slice none 0 0] 33 (0, 0))) := Lib.hid (hG.mod.at HB2.out (own_ne HO2.out HB2.out (by decide)))
                     clear hO hG
                     refine hK _ _ (HPC.out _ HC3.out) ?_; clear hK K; (try simp only [Act.put, List.setIfInBounds_toArray, List.set_cons_zero, List.set_cons_succ])))
                go_wp2_with (first
                  | (refine ord_drop rfl rfl (fun K hK => ?_); refine wpO_append (.tmp 83) (.tmp 87) 31 31 rfl tiR rfl HO3.out rfl (HSRC2.out _ HC3.out) (by omega) (by unfold maxLen; omega) ?_; intro a4 c4 x4 hO hG _
                     have HO4 := Lib.hid hO
                     have HC4 : Hid (Mod (fun _ => False) u x4) := Lib.hid (HC3.out.step hG.mod (fun i hi hs => by have := HF3.out i hs; omega))
                     have HF4 : Hid (∀ b, blk a4 = some b → u.heap.size ≤ b) := Lib.hid (fun b hb => by
                       rcases hG.pos with e | ⟨g, e, hg⟩
                       · exact HF3.out b (by rw [← e]; exact hb)
                       · rw [e] at hb; cases hb; exact Nat.le_trans HC3.out.size hg)
                     have HB4 : Hid (x4.heap[x1.heap.size]? = some (.cells #[.slice none 0 0] 33 (0, 0))) := Lib.hid (hG.mod.at HB3.out (own_ne HO3.out HB3.out (by decide)))
                     clear hO hG
                     refine hK _ _ ?_; clear hK K; (try simp only [Act.put, List.setIfInBounds_toArray, List.set_cons_zero, List.set_cons_succ])))
                have q0 := cell_at (j := 0) HB4.out rfl
                have fz := frozen_at (j := 0) HB4.out
                go_wp2_with (first
                  | (refine ord_pure rfl rfl rfl (fun K hK => ?_); go_big_quiet_op; refine hK _ ?_; clear hK K)
                                                                | (refine ord_skip rfl rfl ?_; simp only [Act.put, List.setIfInBounds_toArray, List.set_cons_zero, List.set_cons_succ])
                                                                | (refine ord_held rfl rfl rfl (HPC.out _ HC4.out) (fun K hK => ?_); apply Exists.intro; refine ⟨fun w' hs => ?_, hK _ ?_⟩; (revert hs; dsimp only; (try simp only [and_imp]); intros; go_simp; rfl); clear hK K)
                                                                | (refine ord_keep rfl rfl (HPC.out _ HC4.out) (fun K hK => ?_))
                                                                | (refine ord_drop rfl rfl (fun K hK => ?_))
                                                                | (refine ord_nil ?_))
                clear q0 fz
                go_meet
                case rel => exact app_fin HB4.out HO4.out HC4.out HMAP.out HNN.out HTT.out HC1.out.size
              ·
                go_wp2_with (first
                  | (refine ordF_keep rfl rfl (HPC.out _ HC1.out) (fun K hK => ?_); refine wpO_append (.tmp 78) (.tmp 82) 31 31 rfl tiR rfl HO1.out rfl (HSRC1.out _ HC1.out) (by omega) (by unfold maxLen; omega) ?_; intro a2 c2 x2 hO hG _
                     simp only [Nat.zero_add, List.nil_append] at hO ⊢
                     have HO2 := Lib.hid hO
                     have HC2 : Hid (Mod (fun _ => False) u x2) := Lib.hid (HC1.out.step hG.mod (fun i hi hs => by have := HF1.out i hs; omega))
                     have HF2 : Hid (∀ b, blk a2 = some b → u.heap.size ≤ b) := Lib.hid (fun b hb => by
                       rcases hG.pos with e | ⟨g, e, hg⟩
                       · exact HF1.out b (by rw [← e]; exact hb)
                       · rw [e] at hb; cases hb; exact Nat.le_trans HC1.out.size hg)
                     clear hO hG
                     refine hK _ _ (HPC.out _ HC2.out) ?_; clear hK K; (try simp only [Act.put, List.setIfInBounds_toArray, List.set_cons_zero, List.set_cons_succ]))
                  | (refine ordF_pure rfl rfl rfl (fun K hK => ?_); go_big_quiet_op; refine hK _ ?_; clear hK K)
                                                                | (refine ordF_skip rfl rfl ?_; simp only [Act.put, List.setIfInBounds_toArray, List.set_cons_zero, List.set_cons_succ])
                                                                | (refine ordF_held rfl rfl rfl (HPC.out _ HC2.out) (fun K hK => ?_); apply Exists.intro; refine ⟨fun w' hs => ?_, hK _ ?_⟩; (revert hs; dsimp only; (try simp only [and_imp]); intros; go_simp; rfl); clear hK K)
                                                                | (refine ordF_keep rfl rfl (HPC.out _ HC2.out) (fun K hK => ?_))
                                                                | (refine ordF_drop rfl rfl (fun K hK => ?_))
                                                                | (refine ordF_nil ?_))
                refine ordF_either ?_ ?_
                · as_aux_lemma =>
                  dsimp only [List.map]
                  go_wp2_with (first
                    | (refine ord_pure rfl rfl rfl (fun K hK => ?_); go_big_quiet_op; refine hK _ ?_; clear hK K)
                                                                | (refine ord_skip rfl rfl ?_; simp only [Act.put, List.setIfInBounds_toArray, List.set_cons_zero, List.set_cons_succ])
                                                                | (refine ord_held rfl rfl rfl (HPC.out _ HC2.out) (fun K hK => ?_); apply Exists.intro; refine ⟨fun w' hs => ?_, hK _ ?_⟩; (revert hs; dsimp only; (try simp only [and_imp]); intros; go_simp; rfl); clear hK K)
                                                                | (refine ord_keep rfl rfl (HPC.out _ HC2.out) (fun K hK => ?_))
                                                                | (refine ord_drop rfl rfl (fun K hK => ?_))
                                                                | (refine ord_nil ?_))
                  obtain ⟨x3, hx⟩ : ∃ v, v = (x2).alloc (.cells #[.slice none 0 0] 33) := ⟨_, rfl⟩
                  have HC3 : Hid (Mod (fun _ => False) u x3) := Lib.hid (by rw [hx]; exact HC2.out.alloc _)
                  have HB3 : Hid (x3.heap[x2.heap.size]? = some (.cells #[.slice none 0 0] 33 (0, 0))) := Lib.hid (by rw [hx]; exact heap_alloc_new (x2) _)
                  have HO3 := Lib.hid (show Mine.Own x3 42 3 a2 N1 c2 (rmsC (xv.drop k)) from by rw [hx]; exact HO2.out.mod ((Mod.refl (fun _ => False) (x2)).alloc _) (fun _ _ => id))
                  rw [← hx]
                  clear hx
                  refine hK _ _ (HPC.out _ HC3.out) ?_; clear hK K; (try simp only [Act.put, List.setIfInBounds_toArray, List.set_cons_zero, List.set_cons_succ])
                  go_wp2_with (first
                    | (refine ord_drop rfl rfl (fun K hK => ?_); refine wpO_append (.tmp 83) (.tmp 87) 31 31 rfl tiR rfl HO3.out rfl (HSRC2.out _ HC3.out) (by omega) (by unfold maxLen; omega) ?_; intro a4 c4 x4 hO hG _
                       have HO4 := Lib.hid hO
                       have HC4 : Hid (Mod (fun _ => False) u x4) := Lib.hid (HC3.out.step hG.mod (fun i hi hs => by have := HF2.out i hs; omega))
                       have HF4 : Hid (∀ b, blk a4 = some b → u.heap.size ≤ b) := Lib.hid (fun b hb => by
                         rcases hG.pos with e | ⟨g, e, hg⟩
                         · exact HF2.out b (by rw [← e]; exact hb)
                         · rw [e] at hb; cases hb; exact Nat.le_trans HC3.out.size hg)
                       have HB4 : Hid (x4.heap[x2.heap.size]? = some (.cells #[.slice none 0 0] 33 (0, 0))) := Lib.hid (hG.mod.at HB3.out (own_ne HO3.out HB3.out (by decide)))
                       clear hO hG
                       refine hK _ _ ?_; clear hK K; (try simp only [Act.put, List.setIfInBounds_toArray, List.set_cons_zero, List.set_cons_succ])))
                  have q0 := cell_at (j := 0) HB4.out rfl
                  have fz := frozen_at (j := 0) HB4.out
                  go_wp2_with (first
                    | (refine ord_pure rfl rfl rfl (fun K hK => ?_); go_big_quiet_op; refine hK _ ?_; clear hK K)
                                                                | (refine ord_skip rfl rfl ?_; simp only [Act.put, List.setIfInBounds_toArray, List.set_cons_zero, List.set_cons_succ])
                                                                | (refine ord_held rfl rfl rfl (HPC.out _ HC4.out) (fun K hK => ?_); apply Exists.intro; refine ⟨fun w' hs => ?_, hK _ ?_⟩; (revert hs; dsimp only; (try simp only [and_imp]); intros; go_simp; rfl); clear hK K)
                                                                | (refine ord_keep rfl rfl (HPC.out _ HC4.out) (fun K hK => ?_))
                                                                | (refine ord_drop rfl rfl (fun K hK => ?_))
                                                                | (refine ord_nil ?_))
                  clear q0 fz
                  go_meet
                  case rel => exact app_fin HB4.out HO4.out HC4.out HMAP.out HNN.out HTT.out HC2.out.size
                ·
                  go_wp2_with (first
                    | (refine ordF_drop rfl rfl (fun K hK => ?_); refine wpO_append (.tmp 83) (.tmp 87) 31 31 rfl tiR rfl HO2.out rfl (HSRC2.out _ HC2.out) (by omega) (by unfold maxLen; omega) ?_; intro a3 c3 x3 hO hG _
                       have HO3 := Lib.hid hO
                       have HC3 : Hid (Mod (fun _ => False) u x3) := Lib.hid (HC2.out.step hG.mod (fun i hi hs => by have := HF2.out i hs; omega))
                       have HF3 : Hid (∀ b, blk a3 = some b → u.heap.size ≤ b) := Lib.hid (fun b hb => by
                         rcases hG.pos with e | ⟨g, e, hg⟩
                         · exact HF2.out b (by rw [← e]; exact hb)
                         · rw [e] at hb; cases hb; exact Nat.le_trans HC2.out.size hg)
                       clear hO hG
                       refine hK _ _ ?_; clear hK K; (try simp only [Act.put, List.setIfInBounds_toArray, List.set_cons_zero, List.set_cons_succ]))
                    | (refine ordF_pure rfl rfl rfl (fun K hK => ?_); go_big_quiet_op; refine hK _ ?_; clear hK K)
                                                                | (refine ordF_skip rfl rfl ?_; simp only [Act.put, List.setIfInBounds_toArray, List.set_cons_zero, List.set_cons_succ])
                                                                | (refine ordF_held rfl rfl rfl (HPC.out _ HC3.out) (fun K hK => ?_); apply Exists.intro; refine ⟨fun w' hs => ?_, hK _ ?_⟩; (revert hs; dsimp only; (try simp only [and_imp]); intros; go_simp; rfl); clear hK K)
                                                                | (refine ordF_keep rfl rfl (HPC.out _ HC3.out) (fun K hK => ?_))
                                                                | (refine ordF_drop rfl rfl (fun K hK => ?_))
                                                                | (refine ordF_nil ?_))
                  refine ordF_now ?_
                  dsimp only [List.map]
                  go_wp2_with (first
                    | (refine ord_pure rfl rfl rfl (fun K hK => ?_); go_big_quiet_op; refine hK _ ?_; clear hK K)
                                                                | (refine ord_skip rfl rfl ?_; simp only [Act.put, List.setIfInBounds_toArray, List.set_cons_zero, List.set_cons_succ])
                                                                | (refine ord_held rfl rfl rfl (HPC.out _ HC3.out) (fun K hK => ?_); apply Exists.intro; refine ⟨fun w' hs => ?_, hK _ ?_⟩; (revert hs; dsimp only; (try simp only [and_imp]); intros; go_simp; rfl); clear hK K)
                                                                | (refine ord_keep rfl rfl (HPC.out _ HC3.out) (fun K hK => ?_))
                                                                | (refine ord_drop rfl rfl (fun K hK => ?_))
                                                                | (refine ord_nil ?_))
                  obtain ⟨x4, hx⟩ : ∃ v, v = (x3).alloc (.cells #[.slice none 0 0] 33) := ⟨_, rfl⟩
                  have HC4 : Hid (Mod (fun _ => False) u x4) := Lib.hid (by rw [hx]; exact HC3.out.alloc _)
                  have HB4 : Hid (x4.heap[x3.heap.size]? = some (.cells #[.slice none 0 0] 33 (0, 0))) := Lib.hid (by rw [hx]; exact heap_alloc_new (x3) _)
                  have HO4 := Lib.hid (show Mine.Own x4 42 3 a3 (N1 + N2) c3 (rmsC (xv.drop k) ++ rmsC (xv.take k)) from by rw [hx]; exact HO3.out.mod ((Mod.refl (fun _ => False) (x3)).alloc _) (fun _ _ => id))
                  rw [← hx]
                  clear hx
                  refine hK _ _ (HPC.out _ HC4.out) ?_; clear hK K; (try simp only [Act.put, List.setIfInBounds_toArray, List.set_cons_zero, List.set_cons_succ])
                  have HF4 := HF3
                  have q0 := cell_at (j := 0) HB4.out rfl
                  have fz := frozen_at (j := 0) HB4.out
                  go_wp2_with (first
                    | (refine ord_pure rfl rfl rfl (fun K hK => ?_); go_big_quiet_op; refine hK _ ?_; clear hK K)
                                                                | (refine ord_skip rfl rfl ?_; simp only [Act.put, List.setIfInBounds_toArray, List.set_cons_zero, List.set_cons_succ])
                                                                | (refine ord_held rfl rfl rfl (HPC.out _ HC4.out) (fun K hK => ?_); apply Exists.intro; refine ⟨fun w' hs => ?_, hK _ ?_⟩; (revert hs; dsimp only; (try simp only [and_imp]); intros; go_simp; rfl); clear hK K)
                                                                | (refine ord_keep rfl rfl (HPC.out _ HC4.out) (fun K hK => ?_))
                                                                | (refine ord_drop rfl rfl (fun K hK => ?_))
                                                                | (refine ord_nil ?_))
                  clear q0 fz
                  go_meet
                  case rel => exact app_fin HB4.out HO4.out HC4.out HMAP.out HNN.out HTT.out HC3.out.size
            -- END16
          case rest =>
            obtain ⟨g, ta, tc, rfl, hg, hRT, hMt⟩ := hcut
            clear HSRC1 HSRC2 hsl1 hsl2 HMAP HNN HTT hb1 hb2
            have hGE : ((checkL tr).2 = 0 ↔ E = 0) := (check_perm HPERM.out).trans (by rw [HE.out])
            have hck := HCK.out wc tr _ (fun r h => HPERM.out.mem_iff.1 h) (by rw [HPERM.out.length_eq]; exact Nat.le_refl _) hRT.out
            have HC1 := Lib.hid hck; have HGE := Lib.hid hGE
            generalize (checkL tr).2 = G at *
            generalize (checkL tr).1 = G1 at *
            clear hck hGE
            have t0 := hg.out
            go_upto_region 17 with fail
            go_cut [13, 14] (fun v1 v wx => ∃ G1 G, v1 = .int .i64 G1 ∧ v = .int .i64 G ∧ Hid (G = 0 ↔ E = 0) ∧ Hid (wx.cell? ⟨g, 0, none⟩ = some (.slice ta tr.length tc)) ∧ Hid (RsAt wx (.slice ta tr.length tc) tr) ∧ Hid (Mod (fun _ => False) u wx))
            case first =>
              go_wp2_with fail
              refine HC1.out.mono ?_
              rintro e w6 ⟨rfl, hM6⟩
              have HM6 := Lib.hid hM6
              clear hM6
              go_wp2_with fail
              go_meet
              case rel => exact ⟨_, _, rfl, rfl, HGE, Lib.hid (HM6.out.cell hg.out id), Lib.hid (hRT.out.mod0 HM6.out), Lib.hid (hMt.out.trans HM6.out)⟩
            case rest =>
              obtain ⟨G1, G, rfl, rfl, hGE, ht0, hRT2, hMt2⟩ := hcut
              clear HC1 HGE hRT hMt hg t0
              have hwi := HWI.out wc tr _ HPERM.out hRT2.out
              have HC2 := Lib.hid hwi
              clear hwi
              have t0 := ht0.out
              go_upto_region 18 with fail
              go_cut [15, 16] (fun v1 v wx => ∃ ma, v1 = .slice ma ps.length ps.length ∧ v = .int .i64 ff ∧ Hid (Rd wx ma (pzsC ps)) ∧ Hid (Mod (fun _ => False) u wx))
              case first =>
                go_wp2_with fail
                refine HC2.out.mono ?_
                rintro e w6 ⟨⟨ma, rfl, hL6⟩, hM6⟩
                have HL6 := Lib.hid hL6; have HM6 := Lib.hid (hMt2.out.trans hM6)
                clear hM6 hL6
                go_wp2_with fail
                go_meet
                case rel => exact ⟨ma, rfl, rfl, HL6, HM6⟩
              case rest =>
                obtain ⟨ma, rfl, rfl, hLm, hMm⟩ := hcut
                clear HC2 hRT2 hMt2 t0 ht0
                obtain ⟨w7, hw7⟩ : ∃ v, v = wc := ⟨_, rfl⟩
                rw [← hw7] at hLm hMm ⊢
                clear hw7
                go_upto_region 19 with fail
                go_cut [128] (fun v wx => v = .bool false ∧ wx = w7)
                case first =>
                  as_aux_lemma =>
                  by_cases hE0 : E = 0
                  · have hG0 : G = 0 := hGE.out.2 hE0
                    have hf0 : ff = 0 := F3.out hE0
                    subst hE0 hG0 hf0
                    go_wp2_with (first
                      | (go_at_call 22; refine (HN.out _ _).mono ?_; rintro e w' ⟨rfl, rfl⟩))
                    go_meet
                    case rel => exact ⟨rfl, rfl⟩
                  · have hG0 : ¬ G = 0 := fun h => hE0 (hGE.out.1 h)
                    have e0 : (E == 0) = false := by simpa using hE0
                    have g0 : (G == 0) = false := by simpa using hG0
                    go_wp2_with (first
                      | (go_at_call 22; refine (HN.out _ _).mono ?_; rintro e w' ⟨rfl, rfl⟩))
                    all_goals go_meet
                    all_goals exact ⟨rfl, rfl⟩
                case rest =>
                  obtain ⟨rfl, hwc⟩ := hcut
                  rw [hwc]
                  clear hwc
                  have HLu : Hid (Rd w7 la (pzsC ps)) := Lib.hid (HL4.out.mod hMm.out (fun _ _ => id))
                  have htot : ((ps.map (·.2.2)).sum ≤ 2 ^ 20) := by
                    rcases F2.out with ⟨_, h⟩ | ⟨_, h⟩
                    · rw [h]; exact hn
                    · rw [h]; simp
                  have HTOT := Lib.hid htot
                  clear htot
                  go_wp2_with fail
                  go_loopw [17, 18] (fun rv iv wr => ∃ i q : Nat, rv = .int .i64 q ∧ iv = .int .i64 i ∧ i ≤ ps.length ∧ Hid (q = ((ps.take i).map (·.2.2)).sum) ∧ Hid (Mod (fun _ => False) w7 wr)) (fun _ iv _ => ps.length - (intOf iv).toNat)
                  case atStart => exact ⟨0, 0, rfl, rfl, Nat.zero_le _, rfl, Lib.hid (Mod.refl _ _)⟩
                  case round =>
                    obtain ⟨i, q, rfl, rfl, hi, hq, hM⟩ := hrel
                    by_cases hlt : i < ps.length
                    · obtain ⟨b, o, rfl, x0, x1, x2⟩ := rd_cellZ (HLu.out.mod hM.out (fun _ _ => id)) hlt
                      obtain ⟨b', o', rfl, y0, y1, y2⟩ := rd_cellZ (hLm.out.mod hM.out (fun _ _ => id)) hlt
                      have hst : ((ps.take (i + 1)).map (·.2.2)).sum = q + ps[i].2.2 := by
                        rw [List.take_succ_eq_append_getElem hlt, List.map_append, List.sum_append, hq.out]; simp
                      have hle : q + ps[i].2.2 ≤ 2 ^ 20 := by
                        rw [← hst]
                        have h1 : ((ps.take (i + 1)).map (·.2.2)).sum + ((ps.drop (i + 1)).map (·.2.2)).sum = (ps.map (·.2.2)).sum := by
                          rw [← List.sum_append, ← List.map_append, List.take_append_drop]
                        have h2 := HTOT.out
                        omega
                      have HST := Lib.hid hst
                      clear hst hq
                      generalize ps[i] = t at *
                      obtain ⟨tn, ta2, tr2⟩ := t
                      simp only at x0 x1 x2 y0 y1 y2 hle HST
                      go_wp2_with fail
                      refine wp_region_ord (fun W => (W.cell? ⟨b, o + i * 3, none⟩ = some (.string tn) ∧ W.cell? ⟨b, o + i * 3 + 1, none⟩ = some (.int .i64 ta2) ∧ W.cell? ⟨b, o + i * 3 + 2, none⟩ = some (.int .i64 tr2)) ∧ (W.cell? ⟨b', o' + i * 3, none⟩ = some (.string tn) ∧ W.cell? ⟨b', o' + i * 3 + 1, none⟩ = some (.int .i64 ta2) ∧ W.cell? ⟨b', o' + i * 3 + 2, none⟩ = some (.int .i64 tr2))) [(0, 0), (0, 1), (0, 2), (1, 3), (0, 4), (0, 5), (0, 6), (1, 7), (0, 8)] (by kernel_rfl) (by kernel_rfl) ?_
                      go_wp2_with (first
                        | (refine ord_pure rfl rfl rfl (fun K hK => ?_); go_big_quiet_op; refine hK _ ?_; clear hK K)
                                                                | (refine ord_skip rfl rfl ?_; simp only [Act.put, List.setIfInBounds_toArray, List.set_cons_zero, List.set_cons_succ])
                                                                | (refine ord_held rfl rfl rfl (⟨⟨x0, x1, x2⟩, ⟨y0, y1, y2⟩⟩) (fun K hK => ?_); apply Exists.intro; refine ⟨fun w' hs => ?_, hK _ ?_⟩; (revert hs; dsimp only; (try simp only [and_imp]); intros; go_simp; rfl); clear hK K)
                                                                | (refine ord_keep rfl rfl (⟨⟨x0, x1, x2⟩, ⟨y0, y1, y2⟩⟩) (fun K hK => ?_))
                                                                | (refine ord_drop rfl rfl (fun K hK => ?_))
                                                                | (refine ord_nil ?_))
                      go_roundw
                      case rel => exact ⟨i + 1, q + tr2, by go_num, by go_num, hlt, Lib.hid HST.out.symm, Lib.hid hM.out.drew⟩
                      case measure => simp [intOf]; omega
                    · obtain rfl : i = ps.length := by omega
                      have hq2 := hq.out
                      rw [List.take_length] at hq2
                      have HQ := Lib.hid hq2
                      have hqs : q ≤ 2 ^ 20 := by rw [hq2]; exact HTOT.out
                      clear hq hq2
                      go_upto_region 28 with fail
                      obtain ⟨v, hv⟩ : ∃ v, v = wr := ⟨_, rfl⟩
                      rw [← hv] at hM ⊢
                      clear hv hlt hi
                      have hMw := HMU.out.trans (hMm.out.trans hM.out)
                      have HMV := Lib.hid hMw
                      have htu : ∀ y ∈ xv, TsAt v y.2.1 y.1.head.terms ∧ LsAt v y.2.2 y.1.body := fun y hy => ⟨(HXT.out y hy).1.mod0 hMw, (HXT.out y hy).2.mod0 hMw⟩
                      have HPC2 : Hid (∀ W, Mod (fun _ => False) v W → W.cell? ⟨w.heap.size, 0, none⟩ = some (.slice ad rs.length c)) := fun W m => HPC.out W ((hMm.out.trans hM.out).trans m)
                      clear HPC
                      have HPC := HPC2
                      obtain ⟨A1, C1, N1, hN1, hsl1, hs1⟩ := sl_hi (HR.out.mod hMw (fun _ _ => id)) HXL.out HNC.out (Nat.le_of_lt HK.out) htu
                      obtain ⟨A2, C2, N2, hN2, hsl2, hs2⟩ := sl_lo (k := k + 1) (HR.out.mod hMw (fun _ _ => id)) HXL.out HNC.out HK.out htu (z := (k : Int) + 1) (by simp)
                      have HSRC1 := Lib.hid hs1; have HSRC2 := Lib.hid hs2
                      obtain ⟨tl, htl⟩ : ∃ tl, tl = rs.take k ++ rs.drop (k + 1) := ⟨_, rfl⟩
                      have hkr := HK.out
                      have HMAP : Hid ((xv.take k ++ xv.drop (k + 1)).map Prod.fst = tl) := Lib.hid (by rw [htl, ← HX.out, List.map_append, List.map_drop, List.map_take])
                      have HNN : Hid (tl.length = N1 + N2) := Lib.hid (by rw [htl, List.length_append, List.length_take, List.length_drop, hN1, hN2]; omega)
                      have HLE : Hid (tl.length ≤ rs.length) := Lib.hid (by rw [htl, List.length_append, List.length_take, List.length_drop]; omega)
                      have HME : Hid (∀ r ∈ tl, r ∈ rs) := Lib.hid (fun r hr => by
                        rw [htl] at hr
                        rcases List.mem_append.1 hr with h | h
                        · exact List.mem_of_mem_take h
                        · exact List.mem_of_mem_drop h)
                      have HTT : Hid (∀ y ∈ xv.take k ++ xv.drop (k + 1), TsAt v y.2.1 y.1.head.terms ∧ LsAt v y.2.2 y.1.body) := Lib.hid (fun y hy => by
                        rcases List.mem_append.1 hy with hy | hy
                        · exact htu y (List.mem_of_mem_take hy)
                        · exact htu y (List.mem_of_mem_drop hy))
                      have hb1 : N1 ≤ 2 ^ 20 := by omega
                      have hb2 : N2 ≤ 2 ^ 20 := by omega
                      clear hs1 hs2 htu hMw hN1 hN2 htl hkr HPC2
                      go_cut [19] (fun vv wx => ∃ g a c', vv = .pointer (some ⟨g, 0, none⟩) ∧ Hid (wx.cell? ⟨g, 0, none⟩ = some (.slice a tl.length c')) ∧ Hid (RsAt wx (.slice a tl.length c') tl) ∧ Hid (Mod (fun _ => False) v wx))
                      case first =>
                        as_aux_lemma =>
                        clear HWI HCK F1 F2 F3 F4 HSO HR0
                        have hk2 : k < rs.length := HK.out
                        -- BEGIN28
                        refine wp_region_ordF (fun W => W.cell? ⟨w.heap.size, 0, none⟩ = some (.slice ad rs.length c)) (2, 13) [((0, 1), 0), ((1, 2), 0), ((0, 3), 0), ((0, 4), 0), ((0, 6), 0), ((1, 7), 0), ((0, 8), 0), ((0, 9), 0), ((0, 10), 0), ((2, 0), 1), ((2, 5), 1), ((3, 11), 1), ((0, 12), 0), ((3, 14), 2)] (by kernel_rfl) (by kernel_rfl) ?_
                        have HC0 := Lib.hid ((Mod.refl (fun _ => False) v).drew)
                        generalize v.drew = x0 at *
                        go_wp2_with (first
                          | (refine ordF_pure rfl rfl rfl (fun K hK => ?_); go_big_quiet_op; refine hK _ ?_; clear hK K)
                                                                | (refine ordF_skip rfl rfl ?_; simp only [Act.put, List.setIfInBounds_toArray, List.set_cons_zero, List.set_cons_succ])
                                                                | (refine ordF_held rfl rfl rfl (HPC.out _ HC0.out) (fun K hK => ?_); apply Exists.intro; refine ⟨fun w' hs => ?_, hK _ ?_⟩; (revert hs; dsimp only; (try simp only [and_imp]); intros; go_simp; rfl); clear hK K)
                                                                | (refine ordF_keep rfl rfl (HPC.out _ HC0.out) (fun K hK => ?_))
                                                                | (refine ordF_drop rfl rfl (fun K hK => ?_))
                                                                | (refine ordF_nil ?_))
                        refine ordF_either ?_ ?_
                        · as_aux_lemma =>
                          dsimp only [List.map]
                          go_wp2_with (first
                            | (refine ord_pure rfl rfl rfl (fun K hK => ?_); go_big_quiet_op; refine hK _ ?_; clear hK K)
                                                                | (refine ord_skip rfl rfl ?_; simp only [Act.put, List.setIfInBounds_toArray, List.set_cons_zero, List.set_cons_succ])
                                                                | (refine ord_held rfl rfl rfl (HPC.out _ HC0.out) (fun K hK => ?_); apply Exists.intro; refine ⟨fun w' hs => ?_, hK _ ?_⟩; (revert hs; dsimp only; (try simp only [and_imp]); intros; go_simp; rfl); clear hK K)
                                                                | (refine ord_keep rfl rfl (HPC.out _ HC0.out) (fun K hK => ?_))
                                                                | (refine ord_drop rfl rfl (fun K hK => ?_))
                                                                | (refine ord_nil ?_))
                          obtain ⟨x1, hx⟩ : ∃ v, v = (x0).alloc (.cells #[.slice none 0 0] 33) := ⟨_, rfl⟩
                          have HC1 : Hid (Mod (fun _ => False) v x1) := Lib.hid (by rw [hx]; exact HC0.out.alloc _)
                          have HB1 : Hid (x1.heap[x0.heap.size]? = some (.cells #[.slice none 0 0] 33 (0, 0))) := Lib.hid (by rw [hx]; exact heap_alloc_new (x0) _)
                          rw [← hx]
                          clear hx
                          refine hK _ _ (HPC.out _ HC1.out) ?_; clear hK K; (try simp only [Act.put, List.setIfInBounds_toArray, List.set_cons_zero, List.set_cons_succ])
                          go_wp2_with (first
                            | (refine ord_pure rfl rfl rfl (fun K hK => ?_); go_big_quiet_op; refine hK _ ?_; clear hK K)
                                                                | (refine ord_skip rfl rfl ?_; simp only [Act.put, List.setIfInBounds_toArray, List.set_cons_zero, List.set_cons_succ])
                                                                | (refine ord_held rfl rfl rfl (HPC.out _ HC1.out) (fun K hK => ?_); apply Exists.intro; refine ⟨fun w' hs => ?_, hK _ ?_⟩; (revert hs; dsimp only; (try simp only [and_imp]); intros; go_simp; rfl); clear hK K)
                                                                | (refine ord_keep rfl rfl (HPC.out _ HC1.out) (fun K hK => ?_))
                                                                | (refine ord_drop rfl rfl (fun K hK => ?_))
                                                                | (refine ord_nil ?_))
                          obtain ⟨x2, hx⟩ : ∃ v, v = (x1).alloc (.cells #[] 42) := ⟨_, rfl⟩
                          have HC2 : Hid (Mod (fun _ => False) v x2) := Lib.hid (by rw [hx]; exact HC1.out.alloc _)
                          have HO2 : Hid (Mine.Own x2 42 3 (some ⟨x1.heap.size, 0, none⟩) 0 0 []) := Lib.hid (by rw [hx]; have := Mine.Own.made (x1) 42 3 #[] 0 0 (by omega) (by unfold maxLen; omega) rfl; simpa using this)
                          have HF2 : Hid (∀ b, blk (some (⟨x1.heap.size, 0, none⟩ : Addr)) = some b → v.heap.size ≤ b) := Lib.hid (fun b hb => by simp at hb; have := HC1.out.size; omega)
                          have HB2 : Hid (x2.heap[x0.heap.size]? = some (.cells #[.slice none 0 0] 33 (0, 0))) := Lib.hid (by rw [hx]; exact ((Mod.refl (fun _ => False) (x1)).alloc _).at HB1.out id)
                          rw [← hx]
                          clear hx
                          refine hK _ _ (HPC.out _ HC2.out) ?_; clear hK K; (try simp only [Act.put, List.setIfInBounds_toArray, List.set_cons_zero, List.set_cons_succ])
                          go_wp2_with (first
                            | (refine ord_keep rfl rfl (HPC.out _ HC2.out) (fun K hK => ?_); refine wpO_append (.tmp 151) (.tmp 155) 31 31 rfl tiR rfl HO2.out rfl (HSRC1.out _ HC2.out) (by omega) (by unfold maxLen; omega) ?_; intro a3 c3 x3 hO hG _
                               simp only [Nat.zero_add, List.nil_append] at hO ⊢
                               have HO3 := Lib.hid hO
                               have HC3 : Hid (Mod (fun _ => False) v x3) := Lib.hid (HC2.out.step hG.mod (fun i hi hs => by have := HF2.out i hs; omega))
                               have HF3 : Hid (∀ b, blk a3 = some b → v.heap.size ≤ b) := Lib.hid (fun b hb => by
                                 rcases hG.pos with e | ⟨g, e, hg⟩
                                 · exact HF2.out b (by rw [← e]; exact hb)
                                 · rw [e] at hb; cases hb; exact Nat.le_trans HC2.out.size hg)
                               have HB3 : Hid (x3.heap[x0.heap.size]? = some (.cells #[.slice none 0 0] 33 (0, 0))) := Lib.hid (hG.mod.at HB2.out (own_ne HO2.out HB2.out (by decide)))
                               clear hO hG
                               refine hK _ _ (HPC.out _ HC3.out) ?_; clear hK K; (try simp only [Act.put, List.setIfInBounds_toArray, List.set_cons_zero, List.set_cons_succ])))
                          go_wp2_with (first
                            | (refine ord_drop rfl rfl (fun K hK => ?_); refine wpO_append (.tmp 156) (.tmp 161) 31 31 rfl tiR rfl HO3.out rfl (HSRC2.out _ HC3.out) (by omega) (by unfold maxLen; omega) ?_; intro a4 c4 x4 hO hG _
                               have HO4 := Lib.hid hO
                               have HC4 : Hid (Mod (fun _ => False) v x4) := Lib.hid (HC3.out.step hG.mod (fun i hi hs => by have := HF3.out i hs; omega))
                               have HF4 : Hid (∀ b, blk a4 = some b → v.heap.size ≤ b) := Lib.hid (fun b hb => by
                                 rcases hG.pos with e | ⟨g, e, hg⟩
                                 · exact HF3.out b (by rw [← e]; exact hb)
                                 · rw [e] at hb; cases hb; exact Nat.le_trans HC3.out.size hg)
                               have HB4 : Hid (x4.heap[x0.heap.size]? = some (.cells #[.slice none 0 0] 33 (0, 0))) := Lib.hid (hG.mod.at HB3.out (own_ne HO3.out HB3.out (by decide)))
                               clear hO hG
                               refine hK _ _ ?_; clear hK K; (try simp only [Act.put, List.setIfInBounds_toArray, List.set_cons_zero, List.set_cons_succ])))
                          have q0 := cell_at (j := 0) HB4.out rfl
                          have fz := frozen_at (j := 0) HB4.out
                          go_wp2_with (first
                            | (refine ord_pure rfl rfl rfl (fun K hK => ?_); go_big_quiet_op; refine hK _ ?_; clear hK K)
                                                                | (refine ord_skip rfl rfl ?_; simp only [Act.put, List.setIfInBounds_toArray, List.set_cons_zero, List.set_cons_succ])
                                                                | (refine ord_held rfl rfl rfl (HPC.out _ HC4.out) (fun K hK => ?_); apply Exists.intro; refine ⟨fun w' hs => ?_, hK _ ?_⟩; (revert hs; dsimp only; (try simp only [and_imp]); intros; go_simp; rfl); clear hK K)
                                                                | (refine ord_keep rfl rfl (HPC.out _ HC4.out) (fun K hK => ?_))
                                                                | (refine ord_drop rfl rfl (fun K hK => ?_))
                                                                | (refine ord_nil ?_))
                          clear q0 fz
                          go_meet
                          case rel => exact app_fin HB4.out HO4.out HC4.out HMAP.out HNN.out HTT.out HC0.out.size
                        · go_wp2_with (first
                            | (refine ordF_pure rfl rfl rfl (fun K hK => ?_); go_big_quiet_op; refine hK _ ?_; clear hK K)
                                                                | (refine ordF_skip rfl rfl ?_; simp only [Act.put, List.setIfInBounds_toArray, List.set_cons_zero, List.set_cons_succ])
                                                                | (refine ordF_held rfl rfl rfl (HPC.out _ HC0.out) (fun K hK => ?_); apply Exists.intro; refine ⟨fun w' hs => ?_, hK _ ?_⟩; (revert hs; dsimp only; (try simp only [and_imp]); intros; go_simp; rfl); clear hK K)
                                                                | (refine ordF_keep rfl rfl (HPC.out _ HC0.out) (fun K hK => ?_))
                                                                | (refine ordF_drop rfl rfl (fun K hK => ?_))
                                                                | (refine ordF_nil ?_))
                          obtain ⟨x1, hx⟩ : ∃ v, v = (x0).alloc (.cells #[] 42) := ⟨_, rfl⟩
                          have HC1 : Hid (Mod (fun _ => False) v x1) := Lib.hid (by rw [hx]; exact HC0.out.alloc _)
                          have HO1 : Hid (Mine.Own x1 42 3 (some ⟨x0.heap.size, 0, none⟩) 0 0 []) := Lib.hid (by rw [hx]; have := Mine.Own.made (x0) 42 3 #[] 0 0 (by omega) (by unfold maxLen; omega) rfl; simpa using this)
                          have HF1 : Hid (∀ b, blk (some (⟨x0.heap.size, 0, none⟩ : Addr)) = some b → v.heap.size ≤ b) := Lib.hid (fun b hb => by simp at hb; have := HC0.out.size; omega)
                          rw [← hx]
                          clear hx
                          refine hK _ _ (HPC.out _ HC1.out) ?_; clear hK K; (try simp only [Act.put, List.setIfInBounds_toArray, List.set_cons_zero, List.set_cons_succ])
                          go_wp2_with (first
                            | (refine ordF_pure rfl rfl rfl (fun K hK => ?_); go_big_quiet_op; refine hK _ ?_; clear hK K)
                                                                | (refine ordF_skip rfl rfl ?_; simp only [Act.put, List.setIfInBounds_toArray, List.set_cons_zero, List.set_cons_succ])
                                                                | (refine ordF_held rfl rfl rfl (HPC.out _ HC1.out) (fun K hK => ?_); apply Exists.intro; refine ⟨fun w' hs => ?_, hK _ ?_⟩; (revert hs; dsimp only; (try simp only [and_imp]); intros; go_simp; rfl); clear hK K)
                                                                | (refine ordF_keep rfl rfl (HPC.out _ HC1.out) (fun K hK => ?_))
                                                                | (refine ordF_drop rfl rfl (fun K hK => ?_))
                                                                | (refine ordF_nil ?_))
                          refine ordF_either ?_ ?_
                          · as_aux_lemma =>
                            dsimp only [List.map]
                            go_wp2_with (first
                              | (refine ord_pure rfl rfl rfl (fun K hK => ?_); go_big_quiet_op; refine hK _ ?_; clear hK K)
                                                                | (refine ord_skip rfl rfl ?_; simp only [Act.put, List.setIfInBounds_toArray, List.set_cons_zero, List.set_cons_succ])
                                                                | (refine ord_held rfl rfl rfl (HPC.out _ HC1.out) (fun K hK => ?_); apply Exists.intro; refine ⟨fun w' hs => ?_, hK _ ?_⟩; (revert hs; dsimp only; (try simp only [and_imp]); intros; go_simp; rfl); clear hK K)
                                                                | (refine ord_keep rfl rfl (HPC.out _ HC1.out) (fun K hK => ?_))
                                                                | (refine ord_drop rfl rfl (fun K hK => ?_))
                                                                | (refine ord_nil ?_))
                            obtain ⟨x2, hx⟩ : ∃ v, v = (x1).alloc (.cells #[.slice none 0 0] 33) := ⟨_, rfl⟩
                            have HC2 : Hid (Mod (fun _ => False) v x2) := Lib.hid (by rw [hx]; exact HC1.out.alloc _)
                            have HB2 : Hid (x2.heap[x1.heap.size]? = some (.cells #[.slice none 0 0] 33 (0, 0))) := Lib.hid (by rw [hx]; exact heap_alloc_new (x1) _)
                            have HO2 := Lib.hid (show Mine.Own x2 42 3 (some ⟨x0.heap.size, 0, none⟩) 0 0 [] from by rw [hx]; exact HO1.out.mod ((Mod.refl (fun _ => False) (x1)).alloc _) (fun _ _ => id))
                            rw [← hx]
                            clear hx
                            refine hK _ _ (HPC.out _ HC2.out) ?_; clear hK K; (try simp only [Act.put, List.setIfInBounds_toArray, List.set_cons_zero, List.set_cons_succ])
                            go_wp2_with (first
                              | (refine ord_keep rfl rfl (HPC.out _ HC2.out) (fun K hK => ?_); refine wpO_append (.tmp 151) (.tmp 155) 31 31 rfl tiR rfl HO2.out rfl (HSRC1.out _ HC2.out) (by omega) (by unfold maxLen; omega) ?_; intro a3 c3 x3 hO hG _
                                 simp only [Nat.zero_add, List.nil_append] at hO ⊢
                                 have HO3 := Lib.hid hO
                                 have HC3 : Hid (Mod (fun _ => False) v x3) := Lib.hid (HC2.out.step hG.mod (fun i hi hs => by have := HF1.out i hs; omega))
                                 have HF3 : Hid (∀ b, blk a3 = some b → v.heap.size ≤ b) := Lib.hid (fun b hb => by
                                   rcases hG.pos with e | ⟨g, e, hg⟩
                                   · exact HF1.out b (by rw [← e]; exact hb)
                                   · rw [e] at hb; cases hb; exact Nat.le_trans HC2.out.size hg)
                                 have HB3 : Hid (x3.heap[x1.heap.size]? = some (.cells #[.slice none 0 0] 33 (0, 0))) := Lib.hid (hG.mod.at HB2.out (own_ne HO2.out HB2.out (by decide)))
                                 clear hO hG
                                 refine hK _ _ (HPC.out _ HC3.out) ?_; clear hK K; (try simp only [Act.put, List.setIfInBounds_toArray, List.set_cons_zero, List.set_cons_succ])))
                            go_wp2_with (first
                              | (refine ord_drop rfl rfl (fun K hK => ?_); refine wpO_append (.tmp 156) (.tmp 161) 31 31 rfl tiR rfl HO3.out rfl (HSRC2.out _ HC3.out) (by omega) (by unfold maxLen; omega) ?_; intro a4 c4 x4 hO hG _
                                 have HO4 := Lib.hid hO
                                 have HC4 : Hid (Mod (fun _ => False) v x4) := Lib.hid (HC3.out.step hG.mod (fun i hi hs => by have := HF3.out i hs; omega))
                                 have HF4 : Hid (∀ b, blk a4 = some b → v.heap.size ≤ b) := Lib.hid (fun b hb => by
                                   rcases hG.pos with e | ⟨g, e, hg⟩
                                   · exact HF3.out b (by rw [← e]; exact hb)
                                   · rw [e] at hb; cases hb; exact Nat.le_trans HC3.out.size hg)
                                 have HB4 : Hid (x4.heap[x1.heap.size]? = some (.cells #[.slice none 0 0] 33 (0, 0))) := Lib.hid (hG.mod.at HB3.out (own_ne HO3.out HB3.out (by decide)))
                                 clear hO hG
                                 refine hK _ _ ?_; clear hK K; (try simp only [Act.put, List.setIfInBounds_toArray, List.set_cons_zero, List.set_cons_succ])))
                            have q0 := cell_at (j := 0) HB4.out rfl
                            have fz := frozen_at (j := 0) HB4.out
                            go_wp2_with (first
                              | (refine ord_pure rfl rfl rfl (fun K hK => ?_); go_big_quiet_op; refine hK _ ?_; clear hK K)
                                                                | (refine ord_skip rfl rfl ?_; simp only [Act.put, List.setIfInBounds_toArray, List.set_cons_zero, List.set_cons_succ])
                                                                | (refine ord_held rfl rfl rfl (HPC.out _ HC4.out) (fun K hK => ?_); apply Exists.intro; refine ⟨fun w' hs => ?_, hK _ ?_⟩; (revert hs; dsimp only; (try simp only [and_imp]); intros; go_simp; rfl); clear hK K)
                                                                | (refine ord_keep rfl rfl (HPC.out _ HC4.out) (fun K hK => ?_))
                                                                | (refine ord_drop rfl rfl (fun K hK => ?_))
                                                                | (refine ord_nil ?_))
                            clear q0 fz
                            go_meet
                            case rel => exact app_fin HB4.out HO4.out HC4.out HMAP.out HNN.out HTT.out HC1.out.size
                          ·
                            go_wp2_with (first
                              | (refine ordF_keep rfl rfl (HPC.out _ HC1.out) (fun K hK => ?_); refine wpO_append (.tmp 151) (.tmp 155) 31 31 rfl tiR rfl HO1.out rfl (HSRC1.out _ HC1.out) (by omega) (by unfold maxLen; omega) ?_; intro a2 c2 x2 hO hG _
                                 simp only [Nat.zero_add, List.nil_append] at hO ⊢
                                 have HO2 := Lib.hid hO
                                 have HC2 : Hid (Mod (fun _ => False) v x2) := Lib.hid (HC1.out.step hG.mod (fun i hi hs => by have := HF1.out i hs; omega))
                                 have HF2 : Hid (∀ b, blk a2 = some b → v.heap.size ≤ b) := Lib.hid (fun b hb => by
                                   rcases hG.pos with e | ⟨g, e, hg⟩
                                   · exact HF1.out b (by rw [← e]; exact hb)
                                   · rw [e] at hb; cases hb; exact Nat.le_trans HC1.out.size hg)
                                 clear hO hG
                                 refine hK _ _ (HPC.out _ HC2.out) ?_; clear hK K; (try simp only [Act.put, List.setIfInBounds_toArray, List.set_cons_zero, List.set_cons_succ]))
                              | (refine ordF_pure rfl rfl rfl (fun K hK => ?_); go_big_quiet_op; refine hK _ ?_; clear hK K)
                                                                | (refine ordF_skip rfl rfl ?_; simp only [Act.put, List.setIfInBounds_toArray, List.set_cons_zero, List.set_cons_succ])
                                                                | (refine ordF_held rfl rfl rfl (HPC.out _ HC2.out) (fun K hK => ?_); apply Exists.intro; refine ⟨fun w' hs => ?_, hK _ ?_⟩; (revert hs; dsimp only; (try simp only [and_imp]); intros; go_simp; rfl); clear hK K)
                                                                | (refine ordF_keep rfl rfl (HPC.out _ HC2.out) (fun K hK => ?_))
                                                                | (refine ordF_drop rfl rfl (fun K hK => ?_))
                                                                | (refine ordF_nil ?_))
                            refine ordF_either ?_ ?_
                            · as_aux_lemma =>
                              dsimp only [List.map]
                              go_wp2_with (first
                                | (refine ord_pure rfl rfl rfl (fun K hK => ?_); go_big_quiet_op; refine hK _ ?_; clear hK K)
                                                                | (refine ord_skip rfl rfl ?_; simp only [Act.put, List.setIfInBounds_toArray, List.set_cons_zero, List.set_cons_succ])
                                                                | (refine ord_held rfl rfl rfl (HPC.out _ HC2.out) (fun K hK => ?_); apply Exists.intro; refine ⟨fun w' hs => ?_, hK _ ?_⟩; (revert hs; dsimp only; (try simp only [and_imp]); intros; go_simp; rfl); clear hK K)
                                                                | (refine ord_keep rfl rfl (HPC.out _ HC2.out) (fun K hK => ?_))
                                                                | (refine ord_drop rfl rfl (fun K hK => ?_))
                                                                | (refine ord_nil ?_))
                              obtain ⟨x3, hx⟩ : ∃ v, v = (x2).alloc (.cells #[.slice none 0 0] 33) := ⟨_, rfl⟩
                              have HC3 : Hid (Mod (fun _ => False) v x3) := Lib.hid (by rw [hx]; exact HC2.out.alloc _)
                              have HB3 : Hid (x3.heap[x2.heap.size]? = some (.cells #[.slice none 0 0] 33 (0, 0))) := Lib.hid (by rw [hx]; exact heap_alloc_new (x2) _)
                              have HO3 := Lib.hid (show Mine.Own x3 42 3 a2 N1 c2 (rmsC (xv.take k)) from by rw [hx]; exact HO2.out.mod ((Mod.refl (fun _ => False) (x2)).alloc _) (fun _ _ => id))
                              rw [← hx]
                              clear hx
                              refine hK _ _ (HPC.out _ HC3.out) ?_; clear hK K; (try simp only [Act.put, List.setIfInBounds_toArray, List.set_cons_zero, List.set_cons_succ])
                              go_wp2_with (first
                                | (refine ord_drop rfl rfl (fun K hK => ?_); refine wpO_append (.tmp 156) (.tmp 161) 31 31 rfl tiR rfl HO3.out rfl (HSRC2.out _ HC3.out) (by omega) (by unfold maxLen; omega) ?_; intro a4 c4 x4 hO hG _
                                   have HO4 := Lib.hid hO
                                   have HC4 : Hid (Mod (fun _ => False) v x4) := Lib.hid (HC3.out.step hG.mod (fun i hi hs => by have := HF2.out i hs; omega))
                                   have HF4 : Hid (∀ b, blk a4 = some b → v.heap.size ≤ b) := Lib.hid (fun b hb => by
                                     rcases hG.pos with e | ⟨g, e, hg⟩
                                     · exact HF2.out b (by rw [← e]; exact hb)
                                     · rw [e] at hb; cases hb; exact Nat.le_trans HC3.out.size hg)
                                   have HB4 : Hid (x4.heap[x2.heap.size]? = some (.cells #[.slice none 0 0] 33 (0, 0))) := Lib.hid (hG.mod.at HB3.out (own_ne HO3.out HB3.out (by decide)))
                                   clear hO hG
                                   refine hK _ _ ?_; clear hK K; (try simp only [Act.put, List.setIfInBounds_toArray, List.set_cons_zero, List.set_cons_succ])))
                              have q0 := cell_at (j := 0) HB4.out rfl
                              have fz := frozen_at (j := 0) HB4.out
                              go_wp2_with (first
                                | (refine ord_pure rfl rfl rfl (fun K hK => ?_); go_big_quiet_op; refine hK _ ?_; clear hK K)
                                                                | (refine ord_skip rfl rfl ?_; simp only [Act.put, List.setIfInBounds_toArray, List.set_cons_zero, List.set_cons_succ])
                                                                | (refine ord_held rfl rfl rfl (HPC.out _ HC4.out) (fun K hK => ?_); apply Exists.intro; refine ⟨fun w' hs => ?_, hK _ ?_⟩; (revert hs; dsimp only; (try simp only [and_imp]); intros; go_simp; rfl); clear hK K)
                                                                | (refine ord_keep rfl rfl (HPC.out _ HC4.out) (fun K hK => ?_))
                                                                | (refine ord_drop rfl rfl (fun K hK => ?_))
                                                                | (refine ord_nil ?_))
                              clear q0 fz
                              go_meet
                              case rel => exact app_fin HB4.out HO4.out HC4.out HMAP.out HNN.out HTT.out HC2.out.size
                            ·
                              go_wp2_with (first
                                | (refine ordF_drop rfl rfl (fun K hK => ?_); refine wpO_append (.tmp 156) (.tmp 161) 31 31 rfl tiR rfl HO2.out rfl (HSRC2.out _ HC2.out) (by omega) (by unfold maxLen; omega) ?_; intro a3 c3 x3 hO hG _
                                   have HO3 := Lib.hid hO
                                   have HC3 : Hid (Mod (fun _ => False) v x3) := Lib.hid (HC2.out.step hG.mod (fun i hi hs => by have := HF2.out i hs; omega))
                                   have HF3 : Hid (∀ b, blk a3 = some b → v.heap.size ≤ b) := Lib.hid (fun b hb => by
                                     rcases hG.pos with e | ⟨g, e, hg⟩
                                     · exact HF2.out b (by rw [← e]; exact hb)
                                     · rw [e] at hb; cases hb; exact Nat.le_trans HC2.out.size hg)
                                   clear hO hG
                                   refine hK _ _ ?_; clear hK K; (try simp only [Act.put, List.setIfInBounds_toArray, List.set_cons_zero, List.set_cons_succ]))
                                | (refine ordF_pure rfl rfl rfl (fun K hK => ?_); go_big_quiet_op; refine hK _ ?_; clear hK K)
                                                                | (refine ordF_skip rfl rfl ?_; simp only [Act.put, List.setIfInBounds_toArray, List.set_cons_zero, List.set_cons_succ])
                                                                | (refine ordF_held rfl rfl rfl (HPC.out _ HC3.out) (fun K hK => ?_); apply Exists.intro; refine ⟨fun w' hs => ?_, hK _ ?_⟩; (revert hs; dsimp only; (try simp only [and_imp]); intros; go_simp; rfl); clear hK K)
                                                                | (refine ordF_keep rfl rfl (HPC.out _ HC3.out) (fun K hK => ?_))
                                                                | (refine ordF_drop rfl rfl (fun K hK => ?_))
                                                                | (refine ordF_nil ?_))
                              refine ordF_now ?_
                              dsimp only [List.map]
                              go_wp2_with (first
                                | (refine ord_pure rfl rfl rfl (fun K hK => ?_); go_big_quiet_op; refine hK _ ?_; clear hK K)
                                                                | (refine ord_skip rfl rfl ?_; simp only [Act.put, List.setIfInBounds_toArray, List.set_cons_zero, List.set_cons_succ])
                                                                | (refine ord_held rfl rfl rfl (HPC.out _ HC3.out) (fun K hK => ?_); apply Exists.intro; refine ⟨fun w' hs => ?_, hK _ ?_⟩; (revert hs; dsimp only; (try simp only [and_imp]); intros; go_simp; rfl); clear hK K)
                                                                | (refine ord_keep rfl rfl (HPC.out _ HC3.out) (fun K hK => ?_))
                                                                | (refine ord_drop rfl rfl (fun K hK => ?_))
                                                                | (refine ord_nil ?_))
                              obtain ⟨x4, hx⟩ : ∃ v, v = (x3).alloc (.cells #[.slice none 0 0] 33) := ⟨_, rfl⟩
                              have HC4 : Hid (Mod (fun _ => False) v x4) := Lib.hid (by rw [hx]; exact HC3.out.alloc _)
                              have HB4 : Hid (x4.heap[x3.heap.size]? = some (.cells #[.slice none 0 0] 33 (0, 0))) := Lib.hid (by rw [hx]; exact heap_alloc_new (x3) _)
                              have HO4 := Lib.hid (show Mine.Own x4 42 3 a3 (N1 + N2) c3 (rmsC (xv.take k) ++ rmsC (xv.drop (k + 1))) from by rw [hx]; exact HO3.out.mod ((Mod.refl (fun _ => False) (x3)).alloc _) (fun _ _ => id))
                              rw [← hx]
                              clear hx
                              refine hK _ _ (HPC.out _ HC4.out) ?_; clear hK K; (try simp only [Act.put, List.setIfInBounds_toArray, List.set_cons_zero, List.set_cons_succ])
                              have HF4 := HF3
                              have q0 := cell_at (j := 0) HB4.out rfl
                              have fz := frozen_at (j := 0) HB4.out
                              go_wp2_with (first
                                | (refine ord_pure rfl rfl rfl (fun K hK => ?_); go_big_quiet_op; refine hK _ ?_; clear hK K)
                                                                | (refine ord_skip rfl rfl ?_; simp only [Act.put, List.setIfInBounds_toArray, List.set_cons_zero, List.set_cons_succ])
                                                                | (refine ord_held rfl rfl rfl (HPC.out _ HC4.out) (fun K hK => ?_); apply Exists.intro; refine ⟨fun w' hs => ?_, hK _ ?_⟩; (revert hs; dsimp only; (try simp only [and_imp]); intros; go_simp; rfl); clear hK K)
                                                                | (refine ord_keep rfl rfl (HPC.out _ HC4.out) (fun K hK => ?_))
                                                                | (refine ord_drop rfl rfl (fun K hK => ?_))
                                                                | (refine ord_nil ?_))
                              clear q0 fz
                              go_meet
                              case rel => exact app_fin HB4.out HO4.out HC4.out HMAP.out HNN.out HTT.out HC3.out.size
                        -- END28
                      case rest =>
                        as_aux_lemma =>
                        obtain ⟨g2, ta2, tc2, rfl, hg2, hRT2, hMt2⟩ := hcut
                        clear HSRC1 HSRC2 hsl1 hsl2 HMAP HNN HTT hb1 hb2
                        have hIE : E = 0 → (checkL tl).2 = 0 := fun h => check_less HME.out HLE.out (HE.out.trans h)
                        have hck := HCK.out wc tl _ HME.out HLE.out hRT2.out
                        have HC1 := Lib.hid hck; have HIE := Lib.hid hIE
                        generalize (checkL tl).2 = I at *
                        generalize (checkL tl).1 = I1 at *
                        clear hck hIE
                        have t0 := hg2.out
                        go_wp2_with fail
                        refine HC1.out.mono ?_
                        rintro e w9 ⟨rfl, hM9⟩
                        have HM9 := Lib.hid (HMV.out.trans (hMt2.out.trans hM9))
                        clear hM9 t0 HC1
                        rcases F2.out with ⟨hf0, hs⟩ | ⟨hf0, hs⟩
                        · have hqn : q = rs.length := HQ.out.trans hs
                          subst hf0
                          rw [hqn]
                          clear hqn hs hqs
                          by_cases hE0 : E = 0
                          · have hI0 : I = 0 := HIE.out hE0
                            subst hE0 hI0
                            go_wp2_with (first
                              | (go_at_call 22; refine (HN.out _ _).mono ?_; rintro e w' ⟨rfl, rfl⟩))
                            go_ret
                            exact ⟨rfl, HM9.out⟩
                          · have e0 : (E == 0) = false := by simpa using hE0
                            have e1 : (E != 0) = true := by simpa using hE0
                            go_wp2_with (first
                              | (go_at_call 22; refine (HN.out _ _).mono ?_; rintro e w' ⟨rfl, rfl⟩))
                            all_goals go_ret
                            all_goals exact ⟨rfl, HM9.out⟩
                        · have hE0 : ¬ E = 0 := fun h => by have := F3.out h; omega
                          have e0 : (E == 0) = false := by simpa using hE0
                          have e1 : (E != 0) = true := by simpa using hE0
                          subst hf0
                          go_wp2_with (first
                            | (go_at_call 22; refine (HN.out _ _).mono ?_; rintro e w' ⟨rfl, rfl⟩))
                          all_goals go_ret
                          all_goals exact ⟨rfl, HM9.out⟩
end Go.Proofs.YteecbbnpgmceiaaDoor
