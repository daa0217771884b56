/-
  sibyllaw09.same: of two programs that hold the same rules it says so.
-/
import Derived.Test.YtphgglnkdfndiaaDoorSame
namespace Go.Proofs.YtphgglnkdfndiaaDoor
open Go Go.RowKit Go.Mine
set_option linter.unusedVariables false
set_option maxHeartbeats 4000000
set_option maxRecDepth 100000

theorem same9_true (rs : List Rm) (s1 s2 : Value) (w : World) (g1 : RsAt w s1 rs) (g2 : RsAt w s2 rs) (hs : SmallPm rs) :
    Calls Tryd.prog 12 #[.agg #[s1], .agg #[s2]] w fun e w' => e = .returned (.bool true) ∧ Mod (fun _ => False) w w' := by
  obtain ⟨a1, c1, xv1, rfl, hx1, hr1, ht1⟩ := g1
  obtain ⟨a2, c2, xv2, rfl, hx2, hr2, ht2⟩ := g2
  have HX1 := Lib.hid hx1; have HR1 := Lib.hid hr1; have HXT1 := Lib.hid ht1
  have HX2 := Lib.hid hx2; have HR2 := Lib.hid hr2; have HXT2 := Lib.hid ht2
  have HSM := Lib.hid hs
  have hsl := hs.1
  clear hx1 hr1 ht1 hx2 hr2 ht2 hs
  have hm0 : Mod (fun _ => False) w ((w.alloc (.cells #[.slice a1 rs.length c1] 24)).alloc (.cells #[.slice a2 rs.length c2] 24)) := ((Mod.refl _ w).alloc _).alloc _
  have d1 : ((w.alloc (.cells #[.slice a1 rs.length c1] 24)).alloc (.cells #[.slice a2 rs.length c2] 24)).cell? ⟨w.heap.size, 0, none⟩ = some (.slice a1 rs.length c1) := cell_old (cell_new rfl)
  have d2 : ((w.alloc (.cells #[.slice a1 rs.length c1] 24)).alloc (.cells #[.slice a2 rs.length c2] 24)).cell? ⟨w.heap.size + 1, 0, none⟩ = some (.slice a2 rs.length c2) := cell_new rfl (by simp)
  go_enter Tryd.func12, Tryd.ntmps12
  go_wp2_with fail
  generalize ((w.alloc (.cells #[.slice a1 rs.length c1] 24)).alloc (.cells #[.slice a2 rs.length c2] 24)) = w0 at *
  have HM0 := Lib.hid hm0; have HD1 := Lib.hid d1; have HD2 := Lib.hid d2
  clear hm0 d1 d2
  go_loopw [5] (fun iv wr => ∃ k : Nat, iv = .int .i64 k ∧ k ≤ rs.length ∧ Hid (Mod (fun _ => False) w0 wr)) (fun iv _ => rs.length - (intOf iv).toNat)
  case atStart => exact ⟨0, rfl, Nat.zero_le _, Lib.hid (Mod.refl _ w0)⟩
  case round =>
    obtain ⟨k, rfl, hk, hM⟩ := hrel
    have e1 := hM.out.cell HD1.out id
    have e2 := hM.out.cell HD2.out id
    by_cases hlt : k < rs.length
    · have HMW : Hid (Mod (fun _ => False) w wr) := Lib.hid (HM0.out.trans hM.out)
      obtain ⟨⟨sk, bk⟩, hx1, hmem1⟩ := xs_get HX1.out hlt
      obtain ⟨bb1, o1, rfl, x0, x1, x2⟩ := rd_cellR (HR1.out.mod HMW.out (fun _ _ => id)) hx1
      obtain ⟨⟨tk, ck⟩, hx2, hmem2⟩ := xs_get HX2.out hlt
      obtain ⟨bb2, o2, rfl, y0, y1, y2⟩ := rd_cellR (HR2.out.mod HMW.out (fun _ _ => id)) hx2
      have hsm := HSM.out.2 _ (List.getElem_mem hlt)
      have HA := Lib.hid (fun (v : World) (m : Mod (fun _ => False) w v) => Same_true rs[k] sk tk bk ck v ((HXT1.out _ hmem1).1.mod0 m) ((HXT2.out _ hmem2).1.mod0 m) ((HXT1.out _ hmem1).2.mod0 m) ((HXT2.out _ hmem2).2.mod0 m) hsm.1.2.1 hsm.2.1 (fun l hl => (hsm.2.2 l hl).1.2.1))
      unfold rmV at HA
      clear hx1 hmem1 hx2 hmem2 hsm
      generalize rs[k] = t at *
      obtain ⟨⟨pr, hts⟩, ls⟩ := t
      simp only at *
      go_wp2_with fail
      refine wp_region_ord (fun w' => (w'.cell? ⟨w.heap.size, 0, none⟩ = some (.slice (some ⟨bb1, o1, none⟩) rs.length c1) ∧ w'.cell? ⟨w.heap.size + 1, 0, none⟩ = some (.slice (some ⟨bb2, o2, none⟩) rs.length c2)) ∧ (w'.cell? ⟨bb1, o1 + k * 3, none⟩ = some (.string pr) ∧ w'.cell? ⟨bb1, o1 + k * 3 + 1, none⟩ = some sk ∧ w'.cell? ⟨bb1, o1 + k * 3 + 2, none⟩ = some bk) ∧ (w'.cell? ⟨bb2, o2 + k * 3, none⟩ = some (.string pr) ∧ w'.cell? ⟨bb2, o2 + k * 3 + 1, none⟩ = some tk ∧ w'.cell? ⟨bb2, o2 + k * 3 + 2, none⟩ = some ck)) [(0, 0), (1, 1), (0, 2), (0, 3), (1, 4), (0, 5), (1, 6), (0, 7), (0, 8), (1, 9), (3, 10), (0, 11)] (by kernel_rfl) (by kernel_rfl) ?_
      go_wp2_with (first
        | (refine ord_pure rfl rfl rfl (fun K hK => ?_); go_big_quiet_op; refine hK _ ?_; clear hK K)
                                                                | (refine ord_skip rfl rfl ?_; simp only [Act.put, List.setIfInBounds_toArray, List.set_cons_zero, List.set_cons_succ])
                                                                | (refine ord_held rfl rfl rfl (⟨⟨by simpa using e1, by simpa using e2⟩, ⟨by simpa using x0, by simpa using x1, by simpa using x2⟩, ⟨by simpa using y0, by simpa using y1, by simpa using y2⟩⟩) (fun K hK => ?_); apply Exists.intro; refine ⟨fun w' hs => ?_, hK _ ?_⟩; (revert hs; dsimp only; (try simp only [and_imp]); intros; go_simp; rfl); clear hK K)
                                                                | (refine ord_keep rfl rfl (⟨⟨by simpa using e1, by simpa using e2⟩, ⟨by simpa using x0, by simpa using x1, by simpa using x2⟩, ⟨by simpa using y0, by simpa using y1, by simpa using y2⟩⟩) (fun K hK => ?_))
                                                                | (refine ord_drop rfl rfl (fun K hK => ?_))
                                                                | (refine ord_nil ?_))
      refine (HA.out _ (HMW.out.drew)).mono ?_
      rintro e w3 ⟨rfl, hM3⟩
      have HM3 := Lib.hid (hM.out.drew.trans hM3)
      clear hM3
      go_wp2_with (first
        | (refine ord_pure rfl rfl rfl (fun K hK => ?_); go_big_quiet_op; refine hK _ ?_; clear hK K)
                                                                | (refine ord_skip rfl rfl ?_; simp only [Act.put, List.setIfInBounds_toArray, List.set_cons_zero, List.set_cons_succ])
                                                                | (refine ord_held rfl rfl rfl (⟨⟨by simpa using e1, by simpa using e2⟩, ⟨by simpa using x0, by simpa using x1, by simpa using x2⟩, ⟨by simpa using y0, by simpa using y1, by simpa using y2⟩⟩) (fun K hK => ?_); apply Exists.intro; refine ⟨fun w' hs => ?_, hK _ ?_⟩; (revert hs; dsimp only; (try simp only [and_imp]); intros; go_simp; rfl); clear hK K)
                                                                | (refine ord_keep rfl rfl (⟨⟨by simpa using e1, by simpa using e2⟩, ⟨by simpa using x0, by simpa using x1, by simpa using x2⟩, ⟨by simpa using y0, by simpa using y1, by simpa using y2⟩⟩) (fun K hK => ?_))
                                                                | (refine ord_drop rfl rfl (fun K hK => ?_))
                                                                | (refine ord_nil ?_))
      go_roundw
      case rel => exact ⟨k + 1, by go_num, hlt, HM3⟩
      case measure => simp [intOf]; omega
    · obtain rfl : k = rs.length := by omega
      go_wp2_with fail
      go_ret
      exact ⟨rfl, HM0.out.trans hM.out⟩
end Go.Proofs.YtphgglnkdfndiaaDoor
