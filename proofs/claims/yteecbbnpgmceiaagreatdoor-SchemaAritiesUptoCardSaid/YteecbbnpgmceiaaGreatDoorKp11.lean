/-
  mark, kept (11): a program that was lent is as it was, the marks too.
-/
import Derived.Test.YteecbbnpgmceiaaGreatDoorLt11
import Derived.Test.YteecbbnpgmceiaaGreatDoorLtG
namespace Go.Proofs.YteecbbnpgmceiaaGreatDoor.L8
open Go Go.RowKit Go.Mine
set_option linter.unusedVariables false
set_option maxHeartbeats 8000000
set_option maxRecDepth 100000

theorem mark11_true (p : ByteArray) (ts : List Tm) (g c : Nat) (w : World) (h : OwnT w g c ts) (hn : ts.length < 2 ^ 30) :
    Calls Tryz.prog 75 #[.agg #[.string p, .slice (some ⟨g, 0, none⟩) ts.length c]] w fun e w' => e = .returned (.bool true) ∧ Mod (fun _ => False) w w' := by
  obtain ⟨hc, hcm⟩ := h.cap
  have hm0 : Mod (fun _ => False) w (w.alloc (.cells #[.string p, .slice (some ⟨g, 0, none⟩) ts.length c] 43)) := (Mod.refl _ w).alloc _
  have hk : (w.alloc (.cells #[.string p, .slice (some ⟨g, 0, none⟩) ts.length c] 43)).cell? ⟨g, ts.length * 2, none⟩ = some (.int .i64 (-71)) := cell_old h.mark
  have d1 : (w.alloc (.cells #[.string p, .slice (some ⟨g, 0, none⟩) ts.length c] 43)).cell? ⟨w.heap.size, 1, none⟩ = some (.slice (some ⟨g, 0, none⟩) ts.length c) := cell_new rfl
  unfold maxLen at hcm
  have hlt : ts.length < c := by omega
  have HM0 := Lib.hid hm0
  clear h
  go_enter Tryz.func75, Tryz.ntmps75
  go_wp2_with fail
  refine wp_region_ord (fun W => W.cell? ⟨w.heap.size, 1, none⟩ = some (.slice (some ⟨g, 0, none⟩) ts.length c) ∧ W.cell? ⟨g, ts.length * 2, none⟩ = some (.int .i64 (-71))) [(0, 0), (1, 1), (0, 2), (1, 3), (0, 4), (0, 5), (0, 6), (0, 7), (1, 8), (0, 9), (0, 10), (0, 11), (1, 12), (0, 13), (0, 14)] (by kernel_rfl) (by kernel_rfl) ?_
  go_wp2_with (first
    | (refine ord_pure rfl rfl rfl (fun K hK => ?_); go_big_quiet_op; refine hK _ ?_; clear hK K)
                                                                | (refine ord_skip rfl rfl ?_; simp only [Act.put, List.setIfInBounds_toArray, List.set_cons_zero, List.set_cons_succ])
                                                                | (refine ord_held rfl rfl rfl (⟨by first | exact d1 | simpa using d1, by first | exact hk | simpa using hk⟩) (fun K hK => ?_); apply Exists.intro; refine ⟨fun w' hs => ?_, hK _ ?_⟩; (revert hs; dsimp only; (try simp only [and_imp]); intros; go_simp; rfl); clear hK K)
                                                                | (refine ord_keep rfl rfl (⟨by first | exact d1 | simpa using d1, by first | exact hk | simpa using hk⟩) (fun K hK => ?_))
                                                                | (refine ord_drop rfl rfl (fun K hK => ?_))
                                                                | (refine ord_nil ?_))
  go_ret
  exact ⟨rfl, HM0.out.drew⟩
theorem kept11_true (rs : List Rm) (v0 : Value) (lo gp cp : Nat) (ys : List Yr) (w : World) (ho : OwnP w lo rs gp cp ys) (hr : RsAt w v0 rs) (hs : SmallPm rs) :
    Calls Tryz.prog 29 #[.agg #[.slice (some ⟨gp, 0, none⟩) rs.length cp], .agg #[v0]] w fun e w' => e = .returned (.bool true) ∧ Mod (fun _ => False) w w' := by
  obtain ⟨hsl, hss⟩ := hs
  have hyl : ys.length = rs.length := by have := congrArg List.length ho.hy; simpa using this
  obtain ⟨hcp, hcm⟩ := ho.cap
  unfold maxLen at hcm
  have HQ := Lib.hid (fun wx (m : Mod (fun _ => False) w wx) => L11.program_true rs _ v0 wx (ho.rsAt.mod0 m) (hr.mod0 m) hsl (fun r hr => SmallRm.smR (hss r hr)))
  obtain ⟨ad, c, xv, rfl, _⟩ := hr
  have HSS := Lib.hid hss
  clear hss
  have hm0 : Mod (fun _ => False) w ((w.alloc (.cells #[.slice (some ⟨gp, 0, none⟩) rs.length cp] 24)).alloc (.cells #[.slice ad rs.length c] 24)) := ((Mod.refl _ w).alloc _).alloc _
  have p0 : ((w.alloc (.cells #[.slice (some ⟨gp, 0, none⟩) rs.length cp] 24)).alloc (.cells #[.slice ad rs.length c] 24)).cell? ⟨w.heap.size, 0, none⟩ = some (.slice (some ⟨gp, 0, none⟩) rs.length cp) := cell_old (cell_new rfl)
  have p1 : ((w.alloc (.cells #[.slice (some ⟨gp, 0, none⟩) rs.length cp] 24)).alloc (.cells #[.slice ad rs.length c] 24)).cell? ⟨w.heap.size + 1, 0, none⟩ = some (.slice ad rs.length c) := cell_new rfl (by simp)
  have HO := Lib.hid ho
  clear ho
  go_enter Tryz.func29, Tryz.ntmps29
  have HS0 : Hid (∀ W, Mod (fun _ => False) ((w.alloc (.cells #[.slice (some ⟨gp, 0, none⟩) rs.length cp] 24)).alloc (.cells #[.slice ad rs.length c] 24)) W → W.cell? ⟨w.heap.size, 0, none⟩ = some (.slice (some ⟨gp, 0, none⟩) rs.length cp) ∧ W.cell? ⟨w.heap.size + 1, 0, none⟩ = some (.slice ad rs.length c) ∧ W.cell? ⟨gp, rs.length * 3, none⟩ = some (.string ⟨#[109, 97, 114, 107]⟩)) := Lib.hid (fun W m => ⟨m.cell p0 id, m.cell p1 id, m.cell (hm0.cell HO.out.mark id) id⟩)
  have HMW := Lib.hid (show ∀ W, Mod (fun _ => False) ((w.alloc (.cells #[.slice (some ⟨gp, 0, none⟩) rs.length cp] 24)).alloc (.cells #[.slice ad rs.length c] 24)) W → Mod (fun _ => False) w W from fun W m => hm0.trans m)
  have HREF : Hid (Mod (fun _ => False) ((w.alloc (.cells #[.slice (some ⟨gp, 0, none⟩) rs.length cp] 24)).alloc (.cells #[.slice ad rs.length c] 24)) ((w.alloc (.cells #[.slice (some ⟨gp, 0, none⟩) rs.length cp] 24)).alloc (.cells #[.slice ad rs.length c] 24))) := Lib.hid (Mod.refl _ _)
  clear hm0
  go_wp2_with fail
  clear p0 p1
  generalize ((w.alloc (.cells #[.slice (some ⟨gp, 0, none⟩) rs.length cp] 24)).alloc (.cells #[.slice ad rs.length c] 24)) = w0 at *
  refine wp_region_ord (fun W => W.cell? ⟨w.heap.size, 0, none⟩ = some (.slice (some ⟨gp, 0, none⟩) rs.length cp) ∧ W.cell? ⟨w.heap.size + 1, 0, none⟩ = some (.slice ad rs.length c) ∧ W.cell? ⟨gp, rs.length * 3, none⟩ = some (.string ⟨#[109, 97, 114, 107]⟩)) [(1, 0), (1, 1), (3, 2), (0, 3), (0, 4), (0, 5), (1, 6), (0, 7), (1, 8), (0, 9), (0, 10), (0, 11), (0, 12), (1, 13), (0, 14), (0, 15), (0, 16), (0, 17), (1, 18), (0, 19), (0, 20)] (by kernel_rfl) (by kernel_rfl) ?_
  go_wp2_with (first
    | (refine ord_pure rfl rfl rfl (fun K hK => ?_); go_big_quiet_op; refine hK _ ?_; clear hK K)
                                                                | (refine ord_skip rfl rfl ?_; simp only [Act.put, List.setIfInBounds_toArray, List.set_cons_zero, List.set_cons_succ])
                                                                | (refine ord_held rfl rfl rfl (HS0.out _ HREF.out.drew) (fun K hK => ?_); apply Exists.intro; refine ⟨fun w' hs => ?_, hK _ ?_⟩; (revert hs; dsimp only; (try simp only [and_imp]); intros; go_simp; rfl); clear hK K)
                                                                | (refine ord_keep rfl rfl (HS0.out _ HREF.out.drew) (fun K hK => ?_))
                                                                | (refine ord_drop rfl rfl (fun K hK => ?_))
                                                                | (refine ord_nil ?_))
  refine (HQ.out _ (HMW.out _ HREF.out.drew)).mono ?_
  rintro e w2 ⟨rfl, hM1⟩
  have HM1 := Lib.hid (HREF.out.drew.trans hM1)
  clear hM1
  refine hK _ _ ?_; clear hK K
  obtain ⟨z0, z1, z2⟩ := HS0.out _ HM1.out
  go_wp2_with (first
    | (refine ord_pure rfl rfl rfl (fun K hK => ?_); go_big_quiet_op; refine hK _ ?_; clear hK K)
                                                                | (refine ord_skip rfl rfl ?_; simp only [Act.put, List.setIfInBounds_toArray, List.set_cons_zero, List.set_cons_succ])
                                                                | (refine ord_held rfl rfl rfl (HS0.out _ HM1.out) (fun K hK => ?_); apply Exists.intro; refine ⟨fun w' hs => ?_, hK _ ?_⟩; (revert hs; dsimp only; (try simp only [and_imp]); intros; go_simp; rfl); clear hK K)
                                                                | (refine ord_keep rfl rfl (HS0.out _ HM1.out) (fun K hK => ?_))
                                                                | (refine ord_drop rfl rfl (fun K hK => ?_))
                                                                | (refine ord_nil ?_))
  clear z0 z1 z2
  have HP0 := Lib.hid (HS0.out _ HM1.out).1
  have HM2 := Lib.hid (HMW.out _ HM1.out)
  clear HQ HS0 HMW HM1 HREF
  go_loopw [5] (fun iv wr => ∃ k : Nat, iv = .int .i64 k ∧ k ≤ rs.length ∧ Hid (Mod (fun _ => False) w2 wr)) (fun iv _ => rs.length - (intOf iv).toNat)
  case atStart => exact ⟨0, rfl, Nat.zero_le _, Lib.hid (Mod.refl _ w2)⟩
  case round =>
    obtain ⟨k, rfl, hk, hM⟩ := hrel
    have t1 := hM.out.cell HP0.out id
    by_cases hlt : k < rs.length
    · have hky : k < ys.length := by omega
      have hyr : ys[k].r = rs[k] := by
        have h1 : (ys.map Yr.r)[k]? = some ys[k].r := by simp [hky]
        rw [HO.out.hy, List.getElem?_eq_getElem hlt] at h1
        exact (Option.some.inj h1).symm
      have hyg : (ys.map yV)[k]? = some (ys[k].r, .slice (some ⟨ys[k].gh, 0, none⟩) ys[k].r.head.terms.length ys[k].ch, .slice (some ⟨ys[k].gb, 0, none⟩) ys[k].r.body.length ys[k].cb) := by
        rw [List.getElem?_map, List.getElem?_eq_getElem hky]; rfl
      have HOr := Lib.hid (HO.out.mod (HM2.out.trans hM.out) (fun _ _ => id))
      obtain ⟨b1, o1, e1, y0, y1, y2⟩ := rd_cellR HOr.out.at hyg
      cases e1
      simp only [Nat.zero_add] at y0 y1 y2
      have hsm := HSS.out _ (List.getElem_mem hlt)
      have hoy : OwnY wr ys[k] := HOr.out.each _ (List.getElem_mem hky)
      clear HOr
      generalize ys[k] = y at *
      obtain ⟨yr, gh, ch, gb, cb, xs, ylo, yhi⟩ := y
      simp only at hyr y0 y1 y2 hyg
      unfold OwnY at hoy
      simp only at hoy
      subst hyr
      clear hyg
      generalize rs[k] = t at *
      obtain ⟨⟨pr, hts⟩, ls⟩ := t
      simp only at y0 y1 y2
      have hn1 : hts.length < 2 ^ 30 := hsm.1.2.1
      have hn2 : ls.length < 2 ^ 30 := hsm.2.1
      have HN3 : Hid (∀ l ∈ ls, l.atom.terms.length < 2 ^ 30) := fun l hl => (hsm.2.2 l hl).1.2.1
      have hl : xs.length = ls.length := by have := congrArg List.length hoy.hx; simpa using this
      have hmk := OwnL.mark hoy.body
      have hcb := OwnL.cap hoy.body
      rw [hl] at hmk hcb
      obtain ⟨hcb, hcbm⟩ := hcb
      unfold maxLen at hcbm
      have hma : Mod (fun _ => False) wr (wr.alloc (.cells #[.string pr, .slice (some ⟨gh, 0, none⟩) hts.length ch, .slice (some ⟨gb, 0, none⟩) ls.length cb] 46)) := (Mod.refl _ wr).alloc _
      have hb := heap_alloc_new wr (.cells #[.string pr, .slice (some ⟨gh, 0, none⟩) hts.length ch, .slice (some ⟨gb, 0, none⟩) ls.length cb] 46)
      have HB := Lib.hid hb
      have HT := Lib.hid (fun (W : World) (m : Mod (fun _ => False) (wr.alloc (.cells #[.string pr, .slice (some ⟨gh, 0, none⟩) hts.length ch, .slice (some ⟨gb, 0, none⟩) ls.length cb] 46)) W) => mark11_true pr hts gh ch W ((hoy.head.mod hma id).mod m id) hn1)
      have HMA := Lib.hid (hM.out.trans hma)
      have HMK := Lib.hid (hma.cell hmk id)
      have HOY := Lib.hid (hoy.mod hma (fun _ _ => id))
      clear hsm hoy hmk hma hb
      have HQ7 : Hid (∀ W, Mod (fun _ => False) (wr.alloc (.cells #[.string pr, .slice (some ⟨gh, 0, none⟩) hts.length ch, .slice (some ⟨gb, 0, none⟩) ls.length cb] 46)) W → W.cell? ⟨wr.heap.size, 0, none⟩ = some (.string pr) ∧ W.cell? ⟨wr.heap.size, 1, none⟩ = some (.slice (some ⟨gh, 0, none⟩) hts.length ch) ∧ W.cell? ⟨wr.heap.size, 2, none⟩ = some (.slice (some ⟨gb, 0, none⟩) ls.length cb) ∧ W.cell? ⟨gb, ls.length * 8, none⟩ = some (.int .i64 (-72))) := Lib.hid (fun W m => ⟨m.cell (cell_at (j := 0) HB.out rfl) id, m.cell (cell_at (j := 1) HB.out rfl) id, m.cell (cell_at (j := 2) HB.out rfl) id, m.cell HMK.out id⟩)
      have HREF : Hid (Mod (fun _ => False) (wr.alloc (.cells #[.string pr, .slice (some ⟨gh, 0, none⟩) hts.length ch, .slice (some ⟨gb, 0, none⟩) ls.length cb] 46)) (wr.alloc (.cells #[.string pr, .slice (some ⟨gh, 0, none⟩) hts.length ch, .slice (some ⟨gb, 0, none⟩) ls.length cb] 46))) := Lib.hid (Mod.refl _ _)
      go_wp2_with fail
      generalize (wr.alloc (.cells #[.string pr, .slice (some ⟨gh, 0, none⟩) hts.length ch, .slice (some ⟨gb, 0, none⟩) ls.length cb] 46)) = wa at *
      refine wp_region_ord (fun W => W.cell? ⟨wr.heap.size, 0, none⟩ = some (.string pr) ∧ W.cell? ⟨wr.heap.size, 1, none⟩ = some (.slice (some ⟨gh, 0, none⟩) hts.length ch) ∧ W.cell? ⟨wr.heap.size, 2, none⟩ = some (.slice (some ⟨gb, 0, none⟩) ls.length cb) ∧ W.cell? ⟨gb, ls.length * 8, none⟩ = some (.int .i64 (-72))) [(0, 0), (1, 1), (3, 2), (0, 3), (0, 4), (0, 5), (1, 6), (0, 7), (1, 8), (0, 9), (0, 10), (0, 11), (0, 12), (1, 13), (0, 14), (0, 15), (0, 16), (1, 17), (0, 18), (0, 19)] (by kernel_rfl) (by kernel_rfl) ?_
      go_wp2_with (first
        | (refine ord_pure rfl rfl rfl (fun K hK => ?_); go_big_quiet_op; refine hK _ ?_; clear hK K)
                                                                | (refine ord_skip rfl rfl ?_; simp only [Act.put, List.setIfInBounds_toArray, List.set_cons_zero, List.set_cons_succ])
                                                                | (refine ord_held rfl rfl rfl (HQ7.out _ HREF.out.drew) (fun K hK => ?_); apply Exists.intro; refine ⟨fun w' hs => ?_, hK _ ?_⟩; (revert hs; dsimp only; (try simp only [and_imp]); intros; go_simp; rfl); clear hK K)
                                                                | (refine ord_keep rfl rfl (HQ7.out _ HREF.out.drew) (fun K hK => ?_))
                                                                | (refine ord_drop rfl rfl (fun K hK => ?_))
                                                                | (refine ord_nil ?_))
      refine (HT.out _ HREF.out.drew).mono ?_
      rintro e wb ⟨rfl, hMb⟩
      have HMb := Lib.hid (HREF.out.drew.trans hMb)
      clear hMb
      refine hK _ _ ?_; clear hK K
      obtain ⟨z0, z1, z2, z3⟩ := HQ7.out _ HMb.out
      go_wp2_with (first
        | (refine ord_pure rfl rfl rfl (fun K hK => ?_); go_big_quiet_op; refine hK _ ?_; clear hK K)
                                                                | (refine ord_skip rfl rfl ?_; simp only [Act.put, List.setIfInBounds_toArray, List.set_cons_zero, List.set_cons_succ])
                                                                | (refine ord_held rfl rfl rfl (HQ7.out _ HMb.out) (fun K hK => ?_); apply Exists.intro; refine ⟨fun w' hs => ?_, hK _ ?_⟩; (revert hs; dsimp only; (try simp only [and_imp]); intros; go_simp; rfl); clear hK K)
                                                                | (refine ord_keep rfl rfl (HQ7.out _ HMb.out) (fun K hK => ?_))
                                                                | (refine ord_drop rfl rfl (fun K hK => ?_))
                                                                | (refine ord_nil ?_))
      clear z0 z1 z2 z3
      have HBB := Lib.hid (HMb.out.at HB.out id)
      have HMB := Lib.hid (HMA.out.trans HMb.out)
      have HOB := Lib.hid (HOY.out.mod HMb.out (fun _ _ => id))
      clear HT HMA HB HMK HOY HQ7 HREF HMb
      go_loopw [7] (fun iv ws => ∃ j : Nat, iv = .int .i64 j ∧ j ≤ ls.length ∧ Hid (Mod (fun _ => False) wb ws)) (fun iv _ => ls.length - (intOf iv).toNat)
      case atStart => exact ⟨0, rfl, Nat.zero_le _, Lib.hid (Mod.refl _ wb)⟩
      case round =>
        obtain ⟨j, rfl, hj, hMj⟩ := hrel
        have x2 := cell_at (j := 2) (hMj.out.at HBB.out id) rfl
        by_cases hlj : j < ls.length
        · obtain ⟨g, cg, hmem, hget⟩ := HOB.out.lit (k := j) hlj
          obtain ⟨b1, o1, e1, z0, z1, z2, z3, z4, z5, z6, z7⟩ := rd_cell8 ((OwnL.at HOB.out.body).mod hMj.out (fun _ _ => id)) hget
          cases e1
          simp only [Nat.zero_add] at z1 z2
          have HT := Lib.hid (mark11_true ls[j].atom.pred ls[j].atom.terms g cg wr ((HOB.out.terms _ hmem).mod hMj.out id) (HN3.out _ (List.getElem_mem hlj)))
          clear z0 z3 z4 z5 z6 z7 hget hmem
          generalize ls[j] = t at *
          go_wp2_with fail
          refine HT.out.mono ?_
          rintro e w3 ⟨rfl, hM3⟩
          have HM3 := Lib.hid (hMj.out.trans hM3); clear hM3 HT
          go_wp2_with fail
          go_roundw
          case rel => exact ⟨j + 1, by go_num, hlj, HM3⟩
          case measure => simp [intOf]; omega
        · obtain rfl : j = ls.length := by omega
          go_wp2_with fail
          go_roundw
          case rel => exact ⟨k + 1, by go_num, hlt, Lib.hid (HMB.out.trans hMj.out)⟩
          case measure => simp [intOf]; omega
    · obtain rfl : k = rs.length := by omega
      go_wp2_with fail
      go_ret
      exact ⟨rfl, HM2.out.trans hM.out⟩
end Go.Proofs.YteecbbnpgmceiaaGreatDoor.L8
