/-
  keptProgram: what it writes over lies below a place.
-/
import Derived.Test.YteecbbnpgmceiaaGreatDoorKpG
namespace Go.Proofs.YteecbbnpgmceiaaGreatDoor
open Go Go.RowKit Go.Mine
set_option linter.unusedVariables false
set_option maxHeartbeats 8000000
set_option maxRecDepth 100000

theorem keptProgram_hi (hi : Nat) (rs : List Rm) (v0 : Value) (lo gp cp : Nat) (ys : List Yr) (w0 w : World) (hM0 : Mod (fun _ => False) w0 w) (hlo : w0.heap.size ≤ lo) (ho : OwnP w lo rs gp cp ys) (hr : RsAt w0 v0 rs) (hs : SmallPm rs) (hhw : hi ≤ w.heap.size) (hbh : ∀ y ∈ ys, ∀ b ∈ y.gh :: y.gb :: blks y.xs, b < hi) :
    Calls Tryz.prog 12 #[.agg #[.slice (some ⟨gp, 0, none⟩) rs.length cp], .agg #[v0]] w fun e w' => e = .returned (.bool true) ∧ Mod (fun b => lo ≤ b ∧ b < hi) w w' := by
  obtain ⟨hsl, hss⟩ := hs
  obtain ⟨ad, c, xv, rfl, hx, hrx, hxt⟩ := hr
  have hyl : ys.length = rs.length := by have := congrArg List.length ho.hy; simpa using this
  obtain ⟨hcp, hcm⟩ := ho.cap
  unfold maxLen at hcm
  have hle : ¬ cp ≤ rs.length := by omega
  have HR := Lib.hid hrx; have HX := Lib.hid hx; have HXT := Lib.hid hxt; have HSS := Lib.hid hss
  have HBH := Lib.hid hbh
  clear hrx hx hxt hss hbh
  have hm0 : Mod (fun _ => False) w ((w.alloc (.cells #[.slice (some ⟨gp, 0, none⟩) rs.length cp] 24)).alloc (.cells #[.slice ad rs.length c] 24)) := ((Mod.refl _ w).alloc _).alloc _
  have p0 : ((w.alloc (.cells #[.slice (some ⟨gp, 0, none⟩) rs.length cp] 24)).alloc (.cells #[.slice ad rs.length c] 24)).cell? ⟨w.heap.size, 0, none⟩ = some (.slice (some ⟨gp, 0, none⟩) rs.length cp) := cell_old (cell_new rfl)
  have p1 : ((w.alloc (.cells #[.slice (some ⟨gp, 0, none⟩) rs.length cp] 24)).alloc (.cells #[.slice ad rs.length c] 24)).cell? ⟨w.heap.size + 1, 0, none⟩ = some (.slice ad rs.length c) := cell_new rfl (by simp)
  have pm := hm0.cell ho.mark id
  have HO := Lib.hid ho
  have HM0 := Lib.hid hM0
  clear ho hM0
  go_enter Tryz.func12, Tryz.ntmps12
  go_wp2_with fail
  generalize ((w.alloc (.cells #[.slice (some ⟨gp, 0, none⟩) rs.length cp] 24)).alloc (.cells #[.slice ad rs.length c] 24)) = w2 at *
  have HP0 := Lib.hid p0; have HP1 := Lib.hid p1; have HM2 := Lib.hid hm0
  clear p0 p1 pm hm0
  have HO2 := Lib.hid (HO.out.mod HM2.out (fun _ _ => id))
  go_loopw [6] (fun iv wr => ∃ k : Nat, iv = .int .i64 k ∧ k ≤ rs.length ∧ Hid (Mod (fun b => lo ≤ b ∧ b < hi) w2 wr) ∧ Hid (Rd wr (some ⟨gp, 0, none⟩) (rmsC (ys.map yV))) ∧ Hid (∀ j (hj : j < ys.length), k ≤ j → OwnY wr ys[j])) (fun iv _ => rs.length - (intOf iv).toNat)
  case atStart => exact ⟨0, rfl, Nat.zero_le _, Lib.hid (Mod.refl _ w2), Lib.hid HO2.out.at, Lib.hid (fun j hj _ => HO2.out.each _ (List.getElem_mem hj))⟩
  case round =>
    obtain ⟨k, rfl, hk, hM, hRd, hE⟩ := hrel
    have t1 := hM.out.cell HP0.out (fun h => by have := h.2; simp at this; omega)
    have t2 := hM.out.cell HP1.out (fun h => by have := h.2; simp at this; omega)
    by_cases hlt : k < rs.length
    · have hky : k < ys.length := by omega
      have HMW : Hid (Mod (fun _ => False) w0 wr) := Lib.hid ((HM0.out.trans HM2.out).step hM.out (fun i hi h => by have := h.1; omega))
      obtain ⟨⟨sk, bk⟩, hx, hmem⟩ := xs_get HX.out hlt
      obtain ⟨bb, o, rfl, x0, x1, x2⟩ := rd_cellR (HR.out.mod HMW.out (fun _ _ => id)) hx
      have hyr : ys[k].r = rs[k] := by
        have h1 : (ys.map Yr.r)[k]? = some ys[k].r := by simp [hky]
        rw [HO.out.hy, List.getElem?_eq_getElem hlt] at h1
        exact (Option.some.inj h1).symm
      have hyg : (ys.map yV)[k]? = some (ys[k].r, .slice (some ⟨ys[k].gh, 0, none⟩) ys[k].r.head.terms.length ys[k].ch, .slice (some ⟨ys[k].gb, 0, none⟩) ys[k].r.body.length ys[k].cb) := by
        rw [List.getElem?_map, List.getElem?_eq_getElem hky]; rfl
      obtain ⟨b1, o1, e1, y0, y1, y2⟩ := rd_cellR hRd.out hyg
      cases e1
      simp only [Nat.zero_add] at y0 y1 y2
      have hsm := HSS.out _ (List.getElem_mem hlt)
      have hTS := (HXT.out _ hmem).1.mod0 HMW.out
      have hLS := (HXT.out _ hmem).2.mod0 HMW.out
      have hoy := hE.out k hky (Nat.le_refl _)
      have hbl : ∀ b ∈ ys[k].gh :: ys[k].gb :: blks ys[k].xs, b < hi := HBH.out _ (List.getElem_mem hky)
      have HY := Lib.hid ((HO.out.far _ (List.getElem_mem hky)))
      have HSEP : Hid (∀ j (hj : j < ys.length), k < j → ys[k].hi ≤ ys[j].lo) := Lib.hid (fun j hj h => List.pairwise_iff_getElem.1 HO.out.sep k j hky hj h)
      generalize ys[k] = y at *
      obtain ⟨yr, gh, ch, gb, cb, xs, ylo, yhi⟩ := y
      simp only at hyr y0 y1 y2 hoy hbl HY HSEP
      subst hyr
      have HK := Lib.hid (kept_true _ rs[k] sk bk gh ch gb cb xs wr.drew (OwnR.both (T := fun _ => False) (OwnR.mod hoy ((Mod.refl (fun _ => False) wr).drew) (fun _ _ => id)) hi (.inr hbl)) (hTS.mod0 (Mod.refl _ wr).drew) (hLS.mod0 (Mod.refl _ wr).drew) hsm.1.2.1 hsm.2.1 (fun l hl => (hsm.2.2 l hl).1.2.1))
      unfold rmV at HK
      have hsk : ∃ sa sc, sk = .slice sa rs[k].head.terms.length sc := by obtain ⟨sa, sc, e, _⟩ := hTS; exact ⟨sa, sc, e⟩
      have hbk : ∃ sa sc, bk = .slice sa rs[k].body.length sc := by obtain ⟨sa, sc, _, e, _⟩ := hLS; exact ⟨sa, sc, e⟩
      clear hx hmem hyg hsm hoy hbl hTS hLS
      generalize rs[k] = t at *
      obtain ⟨⟨pr, hts⟩, ls⟩ := t
      obtain ⟨sa, sc, rfl⟩ := hsk
      obtain ⟨ba, bc, rfl⟩ := hbk
      simp only at x0 x1 x2 y0 y1 y2 HK
      go_wp2_with fail
      refine wp_region_ord (fun w' => (w'.cell? ⟨w.heap.size, 0, none⟩ = some (.slice (some ⟨gp, 0, none⟩) rs.length cp) ∧ w'.cell? ⟨w.heap.size + 1, 0, none⟩ = some (.slice (some ⟨bb, o, none⟩) rs.length c)) ∧ (w'.cell? ⟨gp, k * 3, none⟩ = some (.string pr) ∧ w'.cell? ⟨gp, k * 3 + 1, none⟩ = some (.slice (some ⟨gh, 0, none⟩) hts.length ch) ∧ w'.cell? ⟨gp, k * 3 + 2, none⟩ = some (.slice (some ⟨gb, 0, none⟩) ls.length cb)) ∧ (w'.cell? ⟨bb, o + k * 3, none⟩ = some (.string pr) ∧ w'.cell? ⟨bb, o + k * 3 + 1, none⟩ = some (.slice sa hts.length sc) ∧ w'.cell? ⟨bb, o + k * 3 + 2, none⟩ = some (.slice ba ls.length bc))) [(0, 0), (1, 1), (0, 2), (0, 3), (1, 4), (0, 5), (1, 6), (0, 7), (0, 8), (1, 9), (3, 10), (0, 11)] (by kernel_rfl) (by kernel_rfl) ?_
      go_wp2_with (first
        | (refine ord_pure rfl rfl rfl (fun K hK => ?_); go_big_quiet_op; refine hK _ ?_; clear hK K)
                                                                | (refine ord_skip rfl rfl ?_; simp only [Act.put, List.setIfInBounds_toArray, List.set_cons_zero, List.set_cons_succ])
                                                                | (refine ord_held rfl rfl rfl (⟨⟨by simpa using t1, by simpa using t2⟩, ⟨by simpa using y0, by simpa using y1, by simpa using y2⟩, ⟨by simpa using x0, by simpa using x1, by simpa using x2⟩⟩) (fun K hK => ?_); apply Exists.intro; refine ⟨fun w' hs => ?_, hK _ ?_⟩; (revert hs; dsimp only; (try simp only [and_imp]); intros; go_simp; rfl); clear hK K)
                                                                | (refine ord_keep rfl rfl (⟨⟨by simpa using t1, by simpa using t2⟩, ⟨by simpa using y0, by simpa using y1, by simpa using y2⟩, ⟨by simpa using x0, by simpa using x1, by simpa using x2⟩⟩) (fun K hK => ?_))
                                                                | (refine ord_drop rfl rfl (fun K hK => ?_))
                                                                | (refine ord_nil ?_))
      refine HK.out.mono ?_
      rintro e w3 ⟨rfl, hM3⟩
      have HM3 := Lib.hid (hM.out.drew.step hM3 (fun i _ h => ⟨by have := HY.out.1; have := h.1.1; omega, h.2⟩))
      have hgm : ¬ ((ylo ≤ gp ∧ gp < yhi) ∧ gp < hi) := fun h => by rcases HY.out.2 with h2 | h2 <;> omega
      have HRd := Lib.hid (hRd.out.drew.mod hM3 (fun b hb => by cases hb; exact hgm))
      have HE : Hid (∀ j (hj : j < ys.length), k + 1 ≤ j → OwnY w3 ys[j]) := Lib.hid (fun j hj hkj => OwnR.mod (hE.out j hj (by omega)) ((Mod.refl _ wr).drew.trans hM3) (fun b hb h => by have := HSEP.out j hj (by omega); omega))
      clear hM3 HK
      go_wp2_with (first
        | (refine ord_pure rfl rfl rfl (fun K hK => ?_); go_big_quiet_op; refine hK _ ?_; clear hK K)
                                                                | (refine ord_skip rfl rfl ?_; simp only [Act.put, List.setIfInBounds_toArray, List.set_cons_zero, List.set_cons_succ])
                                                                | (refine ord_held rfl rfl rfl (True.intro) (fun K hK => ?_); apply Exists.intro; refine ⟨fun w' hs => ?_, hK _ ?_⟩; (revert hs; dsimp only; (try simp only [and_imp]); intros; go_simp; rfl); clear hK K)
                                                                | (refine ord_keep rfl rfl (True.intro) (fun K hK => ?_))
                                                                | (refine ord_drop rfl rfl (fun K hK => ?_))
                                                                | (refine ord_nil ?_))
      go_roundw
      case rel => exact ⟨k + 1, by go_num, hlt, HM3, HRd, HE⟩
      case measure => simp [intOf]; omega
    · obtain rfl : k = rs.length := by omega
      go_wp2_with fail
      go_ret
      exact ⟨rfl, (HM2.out.mono (fun _ _ h => h.elim)).trans hM.out⟩
end Go.Proofs.YteecbbnpgmceiaaGreatDoor
