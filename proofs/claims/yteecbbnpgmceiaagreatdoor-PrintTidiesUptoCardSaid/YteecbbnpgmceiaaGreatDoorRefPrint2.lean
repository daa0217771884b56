/-
  Texts: the document's answer, walked: literal, rule, Program, Rule, Atom.
-/
import Derived.Test.YteecbbnpgmceiaaGreatDoorRefPrint
import Derived.Test.YteecbbnpgmceiaaGreatDoorTxG
namespace Go.Proofs.YteecbbnpgmceiaaGreatDoor
open Go Go.RowKit Go.Mine
set_option linter.unusedVariables false
set_option maxHeartbeats 4000000
set_option maxRecDepth 100000

theorem refLit_any (li : Lm) (ok : OkLm li) (s : Value) (w : World) (ht : TsAt w s li.atom.terms) :
    Calls Tryz.prog 94 #[lmV li s] w fun e w' => e = .returned (.string ⟨(lmT li).toArray⟩) ∧ Mod (fun _ => False) w w' := by
  obtain ⟨k, ⟨pr, ts⟩, op, ⟨lk, lt⟩, ⟨rk, rt⟩⟩ := li
  unfold lmV
  simp only at ht ⊢
  have HTS := Lib.hid ht
  obtain ⟨ad, c, rfl, hr⟩ := ht
  clear hr
  have hm0 : Mod (fun _ => False) w (w.alloc (.cells #[.int .i64 k, .string pr, .slice ad ts.length c, .int .i64 op, .int .i64 lk, .string lt, .int .i64 rk, .string rt] 102)) := (Mod.refl _ w).alloc _
  have HM0 := Lib.hid hm0; clear hm0
  have hc := fun j v => cells_at (w := w) (cs := #[.int .i64 k, .string pr, .slice ad ts.length c, .int .i64 op, .int .i64 lk, .string lt, .int .i64 rk, .string rt]) (e := 102) j v
  have HA := Lib.hid (fun (ha : OkAm ⟨pr, ts⟩) (w' : World) (m : Mod (fun _ => False) w w') => refAtom_any ⟨pr, ts⟩ ha _ w' (HTS.out.mod0 m))
  rcases ok with ⟨hk, ha⟩ | ⟨hk, ha⟩ | ⟨hk, h1, h4, okl, okr⟩
  · simp only at hk ha
    subst hk
    have e : lmT ⟨1, ⟨pr, ts⟩, op, ⟨lk, lt⟩, ⟨rk, rt⟩⟩ = amT ⟨pr, ts⟩ := by unfold lmT; rw [if_neg (by simp), if_neg (by simp)]
    rw [e]
    have HA2 := Lib.hid (HA.out ha _ (HM0.out.alloc (.cells #[.string ⟨#[]⟩, .string ⟨#[32, 61, 32]⟩, .string ⟨#[32, 33, 61, 32]⟩, .string ⟨#[32, 60, 32]⟩, .string ⟨#[32, 60, 61, 32]⟩] 224)))
    clear e hc HA
    go_enter Tryz.func94, Tryz.ntmps94
    go_wp2_with fail
    refine HA2.out.mono ?_
    rintro e w2 ⟨rfl, hM2⟩
    have HM2 := Lib.hid hM2; clear hM2
    go_wp2_with fail
    go_ret
    exact ⟨rfl, (HM0.out.alloc _).trans HM2.out⟩
  · simp only at hk ha
    subst hk
    have hal := amT_len ha
    have e : lmT ⟨2, ⟨pr, ts⟩, op, ⟨lk, lt⟩, ⟨rk, rt⟩⟩ = 33 :: amT ⟨pr, ts⟩ := by unfold lmT; rw [if_pos rfl]
    rw [e]
    have HA2 := Lib.hid (HA.out ha _ (HM0.out.alloc (.cells #[.string ⟨#[]⟩, .string ⟨#[32, 61, 32]⟩, .string ⟨#[32, 33, 61, 32]⟩, .string ⟨#[32, 60, 32]⟩, .string ⟨#[32, 60, 61, 32]⟩] 224)))
    generalize amT ⟨pr, ts⟩ = out at *
    obtain ⟨X, hX⟩ : ∃ X : ByteArray, X = ⟨out.toArray⟩ := ⟨_, rfl⟩
    have hXs : X.size ≤ 1100000 := by rw [hX]; exact hal
    rw [← hX] at HA2
    have HX := Lib.hid hX
    clear e hc HA hX hal
    go_enter Tryz.func94, Tryz.ntmps94
    go_wp2_with fail
    refine HA2.out.mono ?_
    rintro e w2 ⟨rfl, hM2⟩
    have HM2 := Lib.hid hM2; clear hM2
    go_wp2_with fail
    go_ret
    exact ⟨ret_str (ba_eq (by rw [ba_app, HX.out]; rfl)), (HM0.out.alloc _).trans HM2.out⟩
  · simp only at hk h1 h4 okl okr
    subst hk
    have HTL := Lib.hid (fun w => refTerm_any ⟨lk, lt⟩ okl w)
    have HTR := Lib.hid (fun w => refTerm_any ⟨rk, rt⟩ okr w)
    unfold tmV at HTL HTR
    have hll := tmT_len okl
    have hlr := tmT_len okr
    obtain ⟨L, hL⟩ : ∃ X : ByteArray, X = ⟨(tmT ⟨lk, lt⟩).toArray⟩ := ⟨_, rfl⟩
    obtain ⟨R, hR⟩ : ∃ X : ByteArray, X = ⟨(tmT ⟨rk, rt⟩).toArray⟩ := ⟨_, rfl⟩
    have hLs : L.size ≤ 16400 := by rw [hL]; exact hll
    have hRs : R.size ≤ 16400 := by rw [hR]; exact hlr
    rw [← hL] at HTL
    rw [← hR] at HTR
    have HLR := Lib.hid (And.intro hL hR)
    clear hL hR hll hlr
    by_cases ho1 : op = 1
    · skip
      obtain rfl : op = 1 := by omega
      have ca : ((w.alloc (.cells #[.int .i64 3, .string pr, .slice ad ts.length c, .int .i64 1, .int .i64 lk, .string lt, .int .i64 rk, .string rt] 102)).alloc (.cells #[.string ⟨#[]⟩, .string ⟨#[32, 61, 32]⟩, .string ⟨#[32, 33, 61, 32]⟩, .string ⟨#[32, 60, 32]⟩, .string ⟨#[32, 60, 61, 32]⟩] 224)).cell? ⟨w.heap.size + 1, 1, none⟩ = some (.string ⟨#[32, 61, 32]⟩) := cell_new rfl (by simp)
      have c3 := cell_old (o := .cells #[.string ⟨#[]⟩, .string ⟨#[32, 61, 32]⟩, .string ⟨#[32, 33, 61, 32]⟩, .string ⟨#[32, 60, 32]⟩, .string ⟨#[32, 60, 61, 32]⟩] 224) (hc 3 _ rfl)
      have c4 := cell_old (o := .cells #[.string ⟨#[]⟩, .string ⟨#[32, 61, 32]⟩, .string ⟨#[32, 33, 61, 32]⟩, .string ⟨#[32, 60, 32]⟩, .string ⟨#[32, 60, 61, 32]⟩] 224) (hc 4 _ rfl)
      have c5 := cell_old (o := .cells #[.string ⟨#[]⟩, .string ⟨#[32, 61, 32]⟩, .string ⟨#[32, 33, 61, 32]⟩, .string ⟨#[32, 60, 32]⟩, .string ⟨#[32, 60, 61, 32]⟩] 224) (hc 5 _ rfl)
      have c6 := cell_old (o := .cells #[.string ⟨#[]⟩, .string ⟨#[32, 61, 32]⟩, .string ⟨#[32, 33, 61, 32]⟩, .string ⟨#[32, 60, 32]⟩, .string ⟨#[32, 60, 61, 32]⟩] 224) (hc 6 _ rfl)
      have c7 := cell_old (o := .cells #[.string ⟨#[]⟩, .string ⟨#[32, 61, 32]⟩, .string ⟨#[32, 33, 61, 32]⟩, .string ⟨#[32, 60, 32]⟩, .string ⟨#[32, 60, 61, 32]⟩] 224) (hc 7 _ rfl)
      have HST : Hid ((⟨(lmT ⟨3, ⟨pr, ts⟩, 1, ⟨lk, lt⟩, ⟨rk, rt⟩⟩).toArray⟩ : ByteArray) = L ++ ⟨#[32, 61, 32]⟩ ++ R) := by
        have e1 : opT 1 = [32, 61, 32] := rfl
        have e : lmT ⟨3, ⟨pr, ts⟩, 1, ⟨lk, lt⟩, ⟨rk, rt⟩⟩ = tmT ⟨lk, lt⟩ ++ opT 1 ++ tmT ⟨rk, rt⟩ := by
          unfold lmT; rw [if_neg (by simp), if_pos rfl]
        unfold Hid
        apply ba_eq
        rw [ba_app, ba_app, HLR.out.1, HLR.out.2]
        simp only
        rw [e, e1]
      have hm1 : Mod (fun _ => False) w ((w.alloc (.cells #[.int .i64 3, .string pr, .slice ad ts.length c, .int .i64 1, .int .i64 lk, .string lt, .int .i64 rk, .string rt] 102)).alloc (.cells #[.string ⟨#[]⟩, .string ⟨#[32, 61, 32]⟩, .string ⟨#[32, 33, 61, 32]⟩, .string ⟨#[32, 60, 32]⟩, .string ⟨#[32, 60, 61, 32]⟩] 224)) := ((Mod.refl _ w).alloc _).alloc _
      obtain ⟨W, hW⟩ : ∃ W, W = ((w.alloc (.cells #[.int .i64 3, .string pr, .slice ad ts.length c, .int .i64 1, .int .i64 lk, .string lt, .int .i64 rk, .string rt] 102)).alloc (.cells #[.string ⟨#[]⟩, .string ⟨#[32, 61, 32]⟩, .string ⟨#[32, 33, 61, 32]⟩, .string ⟨#[32, 60, 32]⟩, .string ⟨#[32, 60, 61, 32]⟩] 224)) := ⟨_, rfl⟩
      have HM1 := Lib.hid hm1
      clear hc hm1 HA HM0
      go_enter Tryz.func94, Tryz.ntmps94
      go_wp2_with fail
      rw [← hW] at ca c3 c4 c5 c6 c7 HM1 ⊢
      clear hW
      refine wp_region_ord (fun w' => (w'.cell? ⟨w.heap.size, 4, none⟩ = some (.int .i64 lk) ∧ w'.cell? ⟨w.heap.size, 5, none⟩ = some (.string lt)) ∧ (w'.cell? ⟨w.heap.size, 3, none⟩ = some (.int .i64 1) ∧ w'.cell? ⟨w.heap.size + 1, 1, none⟩ = some (.string ⟨#[32, 61, 32]⟩)) ∧ (w'.cell? ⟨w.heap.size, 6, none⟩ = some (.int .i64 rk) ∧ w'.cell? ⟨w.heap.size, 7, none⟩ = some (.string rt))) [(0, 0), (1, 1), (0, 3), (1, 4), (0, 5), (1, 6), (0, 8), (1, 9), (2, 2), (0, 7), (2, 10), (0, 11), (0, 12)] (by kernel_rfl) (by kernel_rfl) ?_
      go_wp2_with (first
        | (refine ord_pure rfl rfl rfl (fun K hK => ?_); go_big_quiet_op; refine hK _ ?_; clear hK K)
                                                                | (refine ord_skip rfl rfl ?_; simp only [Act.put, List.setIfInBounds_toArray, List.set_cons_zero, List.set_cons_succ])
                                                                | (refine ord_held rfl rfl rfl (⟨⟨by simpa using c4, by simpa using c5⟩, ⟨by simpa using c3, by simpa using ca⟩, ⟨by simpa using c6, by simpa using c7⟩⟩) (fun K hK => ?_); apply Exists.intro; refine ⟨fun w' hs => ?_, hK _ ?_⟩; (revert hs; dsimp only; (try simp only [and_imp]); intros; go_simp; rfl); clear hK K)
                                                                | (refine ord_keep rfl rfl (⟨⟨by simpa using c4, by simpa using c5⟩, ⟨by simpa using c3, by simpa using ca⟩, ⟨by simpa using c6, by simpa using c7⟩⟩) (fun K hK => ?_))
                                                                | (refine ord_drop rfl rfl (fun K hK => ?_))
                                                                | (refine ord_nil ?_))
      go_wp2_with fail
      refine (HTL.out _).mono ?_
      rintro e w2 ⟨rfl, hM2⟩
      have d3 := hM2.cell (v := .int .i64 1) (by simpa using c3) id
      have d4 := hM2.cell (v := .int .i64 lk) (by simpa using c4) id
      have d5 := hM2.cell (v := .string lt) (by simpa using c5) id
      have d6 := hM2.cell (v := .int .i64 rk) (by simpa using c6) id
      have d7 := hM2.cell (v := .string rt) (by simpa using c7) id
      have da := hM2.cell (v := .string ⟨#[32, 61, 32]⟩) (by simpa using ca) id
      have HM2 := Lib.hid (HM1.out.drew.trans hM2)
      clear hM2
      refine hK _ _ ⟨⟨d4, d5⟩, ⟨d3, da⟩, ⟨d6, d7⟩⟩ ?_; clear hK K
      go_wp2_with (first
        | (refine ord_pure rfl rfl rfl (fun K hK => ?_); go_big_quiet_op; refine hK _ ?_; clear hK K)
                                                                | (refine ord_skip rfl rfl ?_; simp only [Act.put, List.setIfInBounds_toArray, List.set_cons_zero, List.set_cons_succ])
                                                                | (refine ord_held rfl rfl rfl (⟨⟨d4, d5⟩, ⟨d3, da⟩, ⟨d6, d7⟩⟩) (fun K hK => ?_); apply Exists.intro; refine ⟨fun w' hs => ?_, hK _ ?_⟩; (revert hs; dsimp only; (try simp only [and_imp]); intros; go_simp; rfl); clear hK K)
                                                                | (refine ord_keep rfl rfl (⟨⟨d4, d5⟩, ⟨d3, da⟩, ⟨d6, d7⟩⟩) (fun K hK => ?_))
                                                                | (refine ord_drop rfl rfl (fun K hK => ?_))
                                                                | (refine ord_nil ?_))
      refine (HTR.out _).mono ?_
      rintro e w3 ⟨rfl, hM3⟩
      have e3 := hM3.cell d3 id
      have e4 := hM3.cell d4 id
      have e5 := hM3.cell d5 id
      have e6 := hM3.cell d6 id
      have e7 := hM3.cell d7 id
      have ea := hM3.cell da id
      have HM3 := Lib.hid (HM2.out.trans hM3)
      clear hM3
      refine hK _ _ ⟨⟨e4, e5⟩, ⟨e3, ea⟩, ⟨e6, e7⟩⟩ ?_; clear hK K
      go_wp2_with (first
        | (refine ord_pure rfl rfl rfl (fun K hK => ?_); go_big_quiet_op; refine hK _ ?_; clear hK K)
                                                                | (refine ord_skip rfl rfl ?_; simp only [Act.put, List.setIfInBounds_toArray, List.set_cons_zero, List.set_cons_succ])
                                                                | (refine ord_held rfl rfl rfl (⟨⟨e4, e5⟩, ⟨e3, ea⟩, ⟨e6, e7⟩⟩) (fun K hK => ?_); apply Exists.intro; refine ⟨fun w' hs => ?_, hK _ ?_⟩; (revert hs; dsimp only; (try simp only [and_imp]); intros; go_simp; rfl); clear hK K)
                                                                | (refine ord_keep rfl rfl (⟨⟨e4, e5⟩, ⟨e3, ea⟩, ⟨e6, e7⟩⟩) (fun K hK => ?_))
                                                                | (refine ord_drop rfl rfl (fun K hK => ?_))
                                                                | (refine ord_nil ?_))
      go_ret
      exact ⟨ret_str HST.out.symm, HM3.out⟩
    by_cases ho2 : op = 2
    · skip
      obtain rfl : op = 2 := by omega
      have ca : ((w.alloc (.cells #[.int .i64 3, .string pr, .slice ad ts.length c, .int .i64 2, .int .i64 lk, .string lt, .int .i64 rk, .string rt] 102)).alloc (.cells #[.string ⟨#[]⟩, .string ⟨#[32, 61, 32]⟩, .string ⟨#[32, 33, 61, 32]⟩, .string ⟨#[32, 60, 32]⟩, .string ⟨#[32, 60, 61, 32]⟩] 224)).cell? ⟨w.heap.size + 1, 2, none⟩ = some (.string ⟨#[32, 33, 61, 32]⟩) := cell_new rfl (by simp)
      have c3 := cell_old (o := .cells #[.string ⟨#[]⟩, .string ⟨#[32, 61, 32]⟩, .string ⟨#[32, 33, 61, 32]⟩, .string ⟨#[32, 60, 32]⟩, .string ⟨#[32, 60, 61, 32]⟩] 224) (hc 3 _ rfl)
      have c4 := cell_old (o := .cells #[.string ⟨#[]⟩, .string ⟨#[32, 61, 32]⟩, .string ⟨#[32, 33, 61, 32]⟩, .string ⟨#[32, 60, 32]⟩, .string ⟨#[32, 60, 61, 32]⟩] 224) (hc 4 _ rfl)
      have c5 := cell_old (o := .cells #[.string ⟨#[]⟩, .string ⟨#[32, 61, 32]⟩, .string ⟨#[32, 33, 61, 32]⟩, .string ⟨#[32, 60, 32]⟩, .string ⟨#[32, 60, 61, 32]⟩] 224) (hc 5 _ rfl)
      have c6 := cell_old (o := .cells #[.string ⟨#[]⟩, .string ⟨#[32, 61, 32]⟩, .string ⟨#[32, 33, 61, 32]⟩, .string ⟨#[32, 60, 32]⟩, .string ⟨#[32, 60, 61, 32]⟩] 224) (hc 6 _ rfl)
      have c7 := cell_old (o := .cells #[.string ⟨#[]⟩, .string ⟨#[32, 61, 32]⟩, .string ⟨#[32, 33, 61, 32]⟩, .string ⟨#[32, 60, 32]⟩, .string ⟨#[32, 60, 61, 32]⟩] 224) (hc 7 _ rfl)
      have HST : Hid ((⟨(lmT ⟨3, ⟨pr, ts⟩, 2, ⟨lk, lt⟩, ⟨rk, rt⟩⟩).toArray⟩ : ByteArray) = L ++ ⟨#[32, 33, 61, 32]⟩ ++ R) := by
        have e1 : opT 2 = [32, 33, 61, 32] := rfl
        have e : lmT ⟨3, ⟨pr, ts⟩, 2, ⟨lk, lt⟩, ⟨rk, rt⟩⟩ = tmT ⟨lk, lt⟩ ++ opT 2 ++ tmT ⟨rk, rt⟩ := by
          unfold lmT; rw [if_neg (by simp), if_pos rfl]
        unfold Hid
        apply ba_eq
        rw [ba_app, ba_app, HLR.out.1, HLR.out.2]
        simp only
        rw [e, e1]
      have hm1 : Mod (fun _ => False) w ((w.alloc (.cells #[.int .i64 3, .string pr, .slice ad ts.length c, .int .i64 2, .int .i64 lk, .string lt, .int .i64 rk, .string rt] 102)).alloc (.cells #[.string ⟨#[]⟩, .string ⟨#[32, 61, 32]⟩, .string ⟨#[32, 33, 61, 32]⟩, .string ⟨#[32, 60, 32]⟩, .string ⟨#[32, 60, 61, 32]⟩] 224)) := ((Mod.refl _ w).alloc _).alloc _
      obtain ⟨W, hW⟩ : ∃ W, W = ((w.alloc (.cells #[.int .i64 3, .string pr, .slice ad ts.length c, .int .i64 2, .int .i64 lk, .string lt, .int .i64 rk, .string rt] 102)).alloc (.cells #[.string ⟨#[]⟩, .string ⟨#[32, 61, 32]⟩, .string ⟨#[32, 33, 61, 32]⟩, .string ⟨#[32, 60, 32]⟩, .string ⟨#[32, 60, 61, 32]⟩] 224)) := ⟨_, rfl⟩
      have HM1 := Lib.hid hm1
      clear hc hm1 HA HM0
      go_enter Tryz.func94, Tryz.ntmps94
      go_wp2_with fail
      rw [← hW] at ca c3 c4 c5 c6 c7 HM1 ⊢
      clear hW
      refine wp_region_ord (fun w' => (w'.cell? ⟨w.heap.size, 4, none⟩ = some (.int .i64 lk) ∧ w'.cell? ⟨w.heap.size, 5, none⟩ = some (.string lt)) ∧ (w'.cell? ⟨w.heap.size, 3, none⟩ = some (.int .i64 2) ∧ w'.cell? ⟨w.heap.size + 1, 2, none⟩ = some (.string ⟨#[32, 33, 61, 32]⟩)) ∧ (w'.cell? ⟨w.heap.size, 6, none⟩ = some (.int .i64 rk) ∧ w'.cell? ⟨w.heap.size, 7, none⟩ = some (.string rt))) [(0, 0), (1, 1), (0, 3), (1, 4), (0, 5), (1, 6), (0, 8), (1, 9), (2, 2), (0, 7), (2, 10), (0, 11), (0, 12)] (by kernel_rfl) (by kernel_rfl) ?_
      go_wp2_with (first
        | (refine ord_pure rfl rfl rfl (fun K hK => ?_); go_big_quiet_op; refine hK _ ?_; clear hK K)
                                                                | (refine ord_skip rfl rfl ?_; simp only [Act.put, List.setIfInBounds_toArray, List.set_cons_zero, List.set_cons_succ])
                                                                | (refine ord_held rfl rfl rfl (⟨⟨by simpa using c4, by simpa using c5⟩, ⟨by simpa using c3, by simpa using ca⟩, ⟨by simpa using c6, by simpa using c7⟩⟩) (fun K hK => ?_); apply Exists.intro; refine ⟨fun w' hs => ?_, hK _ ?_⟩; (revert hs; dsimp only; (try simp only [and_imp]); intros; go_simp; rfl); clear hK K)
                                                                | (refine ord_keep rfl rfl (⟨⟨by simpa using c4, by simpa using c5⟩, ⟨by simpa using c3, by simpa using ca⟩, ⟨by simpa using c6, by simpa using c7⟩⟩) (fun K hK => ?_))
                                                                | (refine ord_drop rfl rfl (fun K hK => ?_))
                                                                | (refine ord_nil ?_))
      go_wp2_with fail
      refine (HTL.out _).mono ?_
      rintro e w2 ⟨rfl, hM2⟩
      have d3 := hM2.cell (v := .int .i64 2) (by simpa using c3) id
      have d4 := hM2.cell (v := .int .i64 lk) (by simpa using c4) id
      have d5 := hM2.cell (v := .string lt) (by simpa using c5) id
      have d6 := hM2.cell (v := .int .i64 rk) (by simpa using c6) id
      have d7 := hM2.cell (v := .string rt) (by simpa using c7) id
      have da := hM2.cell (v := .string ⟨#[32, 33, 61, 32]⟩) (by simpa using ca) id
      have HM2 := Lib.hid (HM1.out.drew.trans hM2)
      clear hM2
      refine hK _ _ ⟨⟨d4, d5⟩, ⟨d3, da⟩, ⟨d6, d7⟩⟩ ?_; clear hK K
      go_wp2_with (first
        | (refine ord_pure rfl rfl rfl (fun K hK => ?_); go_big_quiet_op; refine hK _ ?_; clear hK K)
                                                                | (refine ord_skip rfl rfl ?_; simp only [Act.put, List.setIfInBounds_toArray, List.set_cons_zero, List.set_cons_succ])
                                                                | (refine ord_held rfl rfl rfl (⟨⟨d4, d5⟩, ⟨d3, da⟩, ⟨d6, d7⟩⟩) (fun K hK => ?_); apply Exists.intro; refine ⟨fun w' hs => ?_, hK _ ?_⟩; (revert hs; dsimp only; (try simp only [and_imp]); intros; go_simp; rfl); clear hK K)
                                                                | (refine ord_keep rfl rfl (⟨⟨d4, d5⟩, ⟨d3, da⟩, ⟨d6, d7⟩⟩) (fun K hK => ?_))
                                                                | (refine ord_drop rfl rfl (fun K hK => ?_))
                                                                | (refine ord_nil ?_))
      refine (HTR.out _).mono ?_
      rintro e w3 ⟨rfl, hM3⟩
      have e3 := hM3.cell d3 id
      have e4 := hM3.cell d4 id
      have e5 := hM3.cell d5 id
      have e6 := hM3.cell d6 id
      have e7 := hM3.cell d7 id
      have ea := hM3.cell da id
      have HM3 := Lib.hid (HM2.out.trans hM3)
      clear hM3
      refine hK _ _ ⟨⟨e4, e5⟩, ⟨e3, ea⟩, ⟨e6, e7⟩⟩ ?_; clear hK K
      go_wp2_with (first
        | (refine ord_pure rfl rfl rfl (fun K hK => ?_); go_big_quiet_op; refine hK _ ?_; clear hK K)
                                                                | (refine ord_skip rfl rfl ?_; simp only [Act.put, List.setIfInBounds_toArray, List.set_cons_zero, List.set_cons_succ])
                                                                | (refine ord_held rfl rfl rfl (⟨⟨e4, e5⟩, ⟨e3, ea⟩, ⟨e6, e7⟩⟩) (fun K hK => ?_); apply Exists.intro; refine ⟨fun w' hs => ?_, hK _ ?_⟩; (revert hs; dsimp only; (try simp only [and_imp]); intros; go_simp; rfl); clear hK K)
                                                                | (refine ord_keep rfl rfl (⟨⟨e4, e5⟩, ⟨e3, ea⟩, ⟨e6, e7⟩⟩) (fun K hK => ?_))
                                                                | (refine ord_drop rfl rfl (fun K hK => ?_))
                                                                | (refine ord_nil ?_))
      go_ret
      exact ⟨ret_str HST.out.symm, HM3.out⟩
    by_cases ho3 : op = 3
    · skip
      obtain rfl : op = 3 := by omega
      have ca : ((w.alloc (.cells #[.int .i64 3, .string pr, .slice ad ts.length c, .int .i64 3, .int .i64 lk, .string lt, .int .i64 rk, .string rt] 102)).alloc (.cells #[.string ⟨#[]⟩, .string ⟨#[32, 61, 32]⟩, .string ⟨#[32, 33, 61, 32]⟩, .string ⟨#[32, 60, 32]⟩, .string ⟨#[32, 60, 61, 32]⟩] 224)).cell? ⟨w.heap.size + 1, 3, none⟩ = some (.string ⟨#[32, 60, 32]⟩) := cell_new rfl (by simp)
      have c3 := cell_old (o := .cells #[.string ⟨#[]⟩, .string ⟨#[32, 61, 32]⟩, .string ⟨#[32, 33, 61, 32]⟩, .string ⟨#[32, 60, 32]⟩, .string ⟨#[32, 60, 61, 32]⟩] 224) (hc 3 _ rfl)
      have c4 := cell_old (o := .cells #[.string ⟨#[]⟩, .string ⟨#[32, 61, 32]⟩, .string ⟨#[32, 33, 61, 32]⟩, .string ⟨#[32, 60, 32]⟩, .string ⟨#[32, 60, 61, 32]⟩] 224) (hc 4 _ rfl)
      have c5 := cell_old (o := .cells #[.string ⟨#[]⟩, .string ⟨#[32, 61, 32]⟩, .string ⟨#[32, 33, 61, 32]⟩, .string ⟨#[32, 60, 32]⟩, .string ⟨#[32, 60, 61, 32]⟩] 224) (hc 5 _ rfl)
      have c6 := cell_old (o := .cells #[.string ⟨#[]⟩, .string ⟨#[32, 61, 32]⟩, .string ⟨#[32, 33, 61, 32]⟩, .string ⟨#[32, 60, 32]⟩, .string ⟨#[32, 60, 61, 32]⟩] 224) (hc 6 _ rfl)
      have c7 := cell_old (o := .cells #[.string ⟨#[]⟩, .string ⟨#[32, 61, 32]⟩, .string ⟨#[32, 33, 61, 32]⟩, .string ⟨#[32, 60, 32]⟩, .string ⟨#[32, 60, 61, 32]⟩] 224) (hc 7 _ rfl)
      have HST : Hid ((⟨(lmT ⟨3, ⟨pr, ts⟩, 3, ⟨lk, lt⟩, ⟨rk, rt⟩⟩).toArray⟩ : ByteArray) = L ++ ⟨#[32, 60, 32]⟩ ++ R) := by
        have e1 : opT 3 = [32, 60, 32] := rfl
        have e : lmT ⟨3, ⟨pr, ts⟩, 3, ⟨lk, lt⟩, ⟨rk, rt⟩⟩ = tmT ⟨lk, lt⟩ ++ opT 3 ++ tmT ⟨rk, rt⟩ := by
          unfold lmT; rw [if_neg (by simp), if_pos rfl]
        unfold Hid
        apply ba_eq
        rw [ba_app, ba_app, HLR.out.1, HLR.out.2]
        simp only
        rw [e, e1]
      have hm1 : Mod (fun _ => False) w ((w.alloc (.cells #[.int .i64 3, .string pr, .slice ad ts.length c, .int .i64 3, .int .i64 lk, .string lt, .int .i64 rk, .string rt] 102)).alloc (.cells #[.string ⟨#[]⟩, .string ⟨#[32, 61, 32]⟩, .string ⟨#[32, 33, 61, 32]⟩, .string ⟨#[32, 60, 32]⟩, .string ⟨#[32, 60, 61, 32]⟩] 224)) := ((Mod.refl _ w).alloc _).alloc _
      obtain ⟨W, hW⟩ : ∃ W, W = ((w.alloc (.cells #[.int .i64 3, .string pr, .slice ad ts.length c, .int .i64 3, .int .i64 lk, .string lt, .int .i64 rk, .string rt] 102)).alloc (.cells #[.string ⟨#[]⟩, .string ⟨#[32, 61, 32]⟩, .string ⟨#[32, 33, 61, 32]⟩, .string ⟨#[32, 60, 32]⟩, .string ⟨#[32, 60, 61, 32]⟩] 224)) := ⟨_, rfl⟩
      have HM1 := Lib.hid hm1
      clear hc hm1 HA HM0
      go_enter Tryz.func94, Tryz.ntmps94
      go_wp2_with fail
      rw [← hW] at ca c3 c4 c5 c6 c7 HM1 ⊢
      clear hW
      refine wp_region_ord (fun w' => (w'.cell? ⟨w.heap.size, 4, none⟩ = some (.int .i64 lk) ∧ w'.cell? ⟨w.heap.size, 5, none⟩ = some (.string lt)) ∧ (w'.cell? ⟨w.heap.size, 3, none⟩ = some (.int .i64 3) ∧ w'.cell? ⟨w.heap.size + 1, 3, none⟩ = some (.string ⟨#[32, 60, 32]⟩)) ∧ (w'.cell? ⟨w.heap.size, 6, none⟩ = some (.int .i64 rk) ∧ w'.cell? ⟨w.heap.size, 7, none⟩ = some (.string rt))) [(0, 0), (1, 1), (0, 3), (1, 4), (0, 5), (1, 6), (0, 8), (1, 9), (2, 2), (0, 7), (2, 10), (0, 11), (0, 12)] (by kernel_rfl) (by kernel_rfl) ?_
      go_wp2_with (first
        | (refine ord_pure rfl rfl rfl (fun K hK => ?_); go_big_quiet_op; refine hK _ ?_; clear hK K)
                                                                | (refine ord_skip rfl rfl ?_; simp only [Act.put, List.setIfInBounds_toArray, List.set_cons_zero, List.set_cons_succ])
                                                                | (refine ord_held rfl rfl rfl (⟨⟨by simpa using c4, by simpa using c5⟩, ⟨by simpa using c3, by simpa using ca⟩, ⟨by simpa using c6, by simpa using c7⟩⟩) (fun K hK => ?_); apply Exists.intro; refine ⟨fun w' hs => ?_, hK _ ?_⟩; (revert hs; dsimp only; (try simp only [and_imp]); intros; go_simp; rfl); clear hK K)
                                                                | (refine ord_keep rfl rfl (⟨⟨by simpa using c4, by simpa using c5⟩, ⟨by simpa using c3, by simpa using ca⟩, ⟨by simpa using c6, by simpa using c7⟩⟩) (fun K hK => ?_))
                                                                | (refine ord_drop rfl rfl (fun K hK => ?_))
                                                                | (refine ord_nil ?_))
      go_wp2_with fail
      refine (HTL.out _).mono ?_
      rintro e w2 ⟨rfl, hM2⟩
      have d3 := hM2.cell (v := .int .i64 3) (by simpa using c3) id
      have d4 := hM2.cell (v := .int .i64 lk) (by simpa using c4) id
      have d5 := hM2.cell (v := .string lt) (by simpa using c5) id
      have d6 := hM2.cell (v := .int .i64 rk) (by simpa using c6) id
      have d7 := hM2.cell (v := .string rt) (by simpa using c7) id
      have da := hM2.cell (v := .string ⟨#[32, 60, 32]⟩) (by simpa using ca) id
      have HM2 := Lib.hid (HM1.out.drew.trans hM2)
      clear hM2
      refine hK _ _ ⟨⟨d4, d5⟩, ⟨d3, da⟩, ⟨d6, d7⟩⟩ ?_; clear hK K
      go_wp2_with (first
        | (refine ord_pure rfl rfl rfl (fun K hK => ?_); go_big_quiet_op; refine hK _ ?_; clear hK K)
                                                                | (refine ord_skip rfl rfl ?_; simp only [Act.put, List.setIfInBounds_toArray, List.set_cons_zero, List.set_cons_succ])
                                                                | (refine ord_held rfl rfl rfl (⟨⟨d4, d5⟩, ⟨d3, da⟩, ⟨d6, d7⟩⟩) (fun K hK => ?_); apply Exists.intro; refine ⟨fun w' hs => ?_, hK _ ?_⟩; (revert hs; dsimp only; (try simp only [and_imp]); intros; go_simp; rfl); clear hK K)
                                                                | (refine ord_keep rfl rfl (⟨⟨d4, d5⟩, ⟨d3, da⟩, ⟨d6, d7⟩⟩) (fun K hK => ?_))
                                                                | (refine ord_drop rfl rfl (fun K hK => ?_))
                                                                | (refine ord_nil ?_))
      refine (HTR.out _).mono ?_
      rintro e w3 ⟨rfl, hM3⟩
      have e3 := hM3.cell d3 id
      have e4 := hM3.cell d4 id
      have e5 := hM3.cell d5 id
      have e6 := hM3.cell d6 id
      have e7 := hM3.cell d7 id
      have ea := hM3.cell da id
      have HM3 := Lib.hid (HM2.out.trans hM3)
      clear hM3
      refine hK _ _ ⟨⟨e4, e5⟩, ⟨e3, ea⟩, ⟨e6, e7⟩⟩ ?_; clear hK K
      go_wp2_with (first
        | (refine ord_pure rfl rfl rfl (fun K hK => ?_); go_big_quiet_op; refine hK _ ?_; clear hK K)
                                                                | (refine ord_skip rfl rfl ?_; simp only [Act.put, List.setIfInBounds_toArray, List.set_cons_zero, List.set_cons_succ])
                                                                | (refine ord_held rfl rfl rfl (⟨⟨e4, e5⟩, ⟨e3, ea⟩, ⟨e6, e7⟩⟩) (fun K hK => ?_); apply Exists.intro; refine ⟨fun w' hs => ?_, hK _ ?_⟩; (revert hs; dsimp only; (try simp only [and_imp]); intros; go_simp; rfl); clear hK K)
                                                                | (refine ord_keep rfl rfl (⟨⟨e4, e5⟩, ⟨e3, ea⟩, ⟨e6, e7⟩⟩) (fun K hK => ?_))
                                                                | (refine ord_drop rfl rfl (fun K hK => ?_))
                                                                | (refine ord_nil ?_))
      go_ret
      exact ⟨ret_str HST.out.symm, HM3.out⟩
    · skip
      obtain rfl : op = 4 := by omega
      have ca : ((w.alloc (.cells #[.int .i64 3, .string pr, .slice ad ts.length c, .int .i64 4, .int .i64 lk, .string lt, .int .i64 rk, .string rt] 102)).alloc (.cells #[.string ⟨#[]⟩, .string ⟨#[32, 61, 32]⟩, .string ⟨#[32, 33, 61, 32]⟩, .string ⟨#[32, 60, 32]⟩, .string ⟨#[32, 60, 61, 32]⟩] 224)).cell? ⟨w.heap.size + 1, 4, none⟩ = some (.string ⟨#[32, 60, 61, 32]⟩) := cell_new rfl (by simp)
      have c3 := cell_old (o := .cells #[.string ⟨#[]⟩, .string ⟨#[32, 61, 32]⟩, .string ⟨#[32, 33, 61, 32]⟩, .string ⟨#[32, 60, 32]⟩, .string ⟨#[32, 60, 61, 32]⟩] 224) (hc 3 _ rfl)
      have c4 := cell_old (o := .cells #[.string ⟨#[]⟩, .string ⟨#[32, 61, 32]⟩, .string ⟨#[32, 33, 61, 32]⟩, .string ⟨#[32, 60, 32]⟩, .string ⟨#[32, 60, 61, 32]⟩] 224) (hc 4 _ rfl)
      have c5 := cell_old (o := .cells #[.string ⟨#[]⟩, .string ⟨#[32, 61, 32]⟩, .string ⟨#[32, 33, 61, 32]⟩, .string ⟨#[32, 60, 32]⟩, .string ⟨#[32, 60, 61, 32]⟩] 224) (hc 5 _ rfl)
      have c6 := cell_old (o := .cells #[.string ⟨#[]⟩, .string ⟨#[32, 61, 32]⟩, .string ⟨#[32, 33, 61, 32]⟩, .string ⟨#[32, 60, 32]⟩, .string ⟨#[32, 60, 61, 32]⟩] 224) (hc 6 _ rfl)
      have c7 := cell_old (o := .cells #[.string ⟨#[]⟩, .string ⟨#[32, 61, 32]⟩, .string ⟨#[32, 33, 61, 32]⟩, .string ⟨#[32, 60, 32]⟩, .string ⟨#[32, 60, 61, 32]⟩] 224) (hc 7 _ rfl)
      have HST : Hid ((⟨(lmT ⟨3, ⟨pr, ts⟩, 4, ⟨lk, lt⟩, ⟨rk, rt⟩⟩).toArray⟩ : ByteArray) = L ++ ⟨#[32, 60, 61, 32]⟩ ++ R) := by
        have e1 : opT 4 = [32, 60, 61, 32] := rfl
        have e : lmT ⟨3, ⟨pr, ts⟩, 4, ⟨lk, lt⟩, ⟨rk, rt⟩⟩ = tmT ⟨lk, lt⟩ ++ opT 4 ++ tmT ⟨rk, rt⟩ := by
          unfold lmT; rw [if_neg (by simp), if_pos rfl]
        unfold Hid
        apply ba_eq
        rw [ba_app, ba_app, HLR.out.1, HLR.out.2]
        simp only
        rw [e, e1]
      have hm1 : Mod (fun _ => False) w ((w.alloc (.cells #[.int .i64 3, .string pr, .slice ad ts.length c, .int .i64 4, .int .i64 lk, .string lt, .int .i64 rk, .string rt] 102)).alloc (.cells #[.string ⟨#[]⟩, .string ⟨#[32, 61, 32]⟩, .string ⟨#[32, 33, 61, 32]⟩, .string ⟨#[32, 60, 32]⟩, .string ⟨#[32, 60, 61, 32]⟩] 224)) := ((Mod.refl _ w).alloc _).alloc _
      obtain ⟨W, hW⟩ : ∃ W, W = ((w.alloc (.cells #[.int .i64 3, .string pr, .slice ad ts.length c, .int .i64 4, .int .i64 lk, .string lt, .int .i64 rk, .string rt] 102)).alloc (.cells #[.string ⟨#[]⟩, .string ⟨#[32, 61, 32]⟩, .string ⟨#[32, 33, 61, 32]⟩, .string ⟨#[32, 60, 32]⟩, .string ⟨#[32, 60, 61, 32]⟩] 224)) := ⟨_, rfl⟩
      have HM1 := Lib.hid hm1
      clear hc hm1 HA HM0
      go_enter Tryz.func94, Tryz.ntmps94
      go_wp2_with fail
      rw [← hW] at ca c3 c4 c5 c6 c7 HM1 ⊢
      clear hW
      refine wp_region_ord (fun w' => (w'.cell? ⟨w.heap.size, 4, none⟩ = some (.int .i64 lk) ∧ w'.cell? ⟨w.heap.size, 5, none⟩ = some (.string lt)) ∧ (w'.cell? ⟨w.heap.size, 3, none⟩ = some (.int .i64 4) ∧ w'.cell? ⟨w.heap.size + 1, 4, none⟩ = some (.string ⟨#[32, 60, 61, 32]⟩)) ∧ (w'.cell? ⟨w.heap.size, 6, none⟩ = some (.int .i64 rk) ∧ w'.cell? ⟨w.heap.size, 7, none⟩ = some (.string rt))) [(0, 0), (1, 1), (0, 3), (1, 4), (0, 5), (1, 6), (0, 8), (1, 9), (2, 2), (0, 7), (2, 10), (0, 11), (0, 12)] (by kernel_rfl) (by kernel_rfl) ?_
      go_wp2_with (first
        | (refine ord_pure rfl rfl rfl (fun K hK => ?_); go_big_quiet_op; refine hK _ ?_; clear hK K)
                                                                | (refine ord_skip rfl rfl ?_; simp only [Act.put, List.setIfInBounds_toArray, List.set_cons_zero, List.set_cons_succ])
                                                                | (refine ord_held rfl rfl rfl (⟨⟨by simpa using c4, by simpa using c5⟩, ⟨by simpa using c3, by simpa using ca⟩, ⟨by simpa using c6, by simpa using c7⟩⟩) (fun K hK => ?_); apply Exists.intro; refine ⟨fun w' hs => ?_, hK _ ?_⟩; (revert hs; dsimp only; (try simp only [and_imp]); intros; go_simp; rfl); clear hK K)
                                                                | (refine ord_keep rfl rfl (⟨⟨by simpa using c4, by simpa using c5⟩, ⟨by simpa using c3, by simpa using ca⟩, ⟨by simpa using c6, by simpa using c7⟩⟩) (fun K hK => ?_))
                                                                | (refine ord_drop rfl rfl (fun K hK => ?_))
                                                                | (refine ord_nil ?_))
      go_wp2_with fail
      refine (HTL.out _).mono ?_
      rintro e w2 ⟨rfl, hM2⟩
      have d3 := hM2.cell (v := .int .i64 4) (by simpa using c3) id
      have d4 := hM2.cell (v := .int .i64 lk) (by simpa using c4) id
      have d5 := hM2.cell (v := .string lt) (by simpa using c5) id
      have d6 := hM2.cell (v := .int .i64 rk) (by simpa using c6) id
      have d7 := hM2.cell (v := .string rt) (by simpa using c7) id
      have da := hM2.cell (v := .string ⟨#[32, 60, 61, 32]⟩) (by simpa using ca) id
      have HM2 := Lib.hid (HM1.out.drew.trans hM2)
      clear hM2
      refine hK _ _ ⟨⟨d4, d5⟩, ⟨d3, da⟩, ⟨d6, d7⟩⟩ ?_; clear hK K
      go_wp2_with (first
        | (refine ord_pure rfl rfl rfl (fun K hK => ?_); go_big_quiet_op; refine hK _ ?_; clear hK K)
                                                                | (refine ord_skip rfl rfl ?_; simp only [Act.put, List.setIfInBounds_toArray, List.set_cons_zero, List.set_cons_succ])
                                                                | (refine ord_held rfl rfl rfl (⟨⟨d4, d5⟩, ⟨d3, da⟩, ⟨d6, d7⟩⟩) (fun K hK => ?_); apply Exists.intro; refine ⟨fun w' hs => ?_, hK _ ?_⟩; (revert hs; dsimp only; (try simp only [and_imp]); intros; go_simp; rfl); clear hK K)
                                                                | (refine ord_keep rfl rfl (⟨⟨d4, d5⟩, ⟨d3, da⟩, ⟨d6, d7⟩⟩) (fun K hK => ?_))
                                                                | (refine ord_drop rfl rfl (fun K hK => ?_))
                                                                | (refine ord_nil ?_))
      refine (HTR.out _).mono ?_
      rintro e w3 ⟨rfl, hM3⟩
      have e3 := hM3.cell d3 id
      have e4 := hM3.cell d4 id
      have e5 := hM3.cell d5 id
      have e6 := hM3.cell d6 id
      have e7 := hM3.cell d7 id
      have ea := hM3.cell da id
      have HM3 := Lib.hid (HM2.out.trans hM3)
      clear hM3
      refine hK _ _ ⟨⟨e4, e5⟩, ⟨e3, ea⟩, ⟨e6, e7⟩⟩ ?_; clear hK K
      go_wp2_with (first
        | (refine ord_pure rfl rfl rfl (fun K hK => ?_); go_big_quiet_op; refine hK _ ?_; clear hK K)
                                                                | (refine ord_skip rfl rfl ?_; simp only [Act.put, List.setIfInBounds_toArray, List.set_cons_zero, List.set_cons_succ])
                                                                | (refine ord_held rfl rfl rfl (⟨⟨e4, e5⟩, ⟨e3, ea⟩, ⟨e6, e7⟩⟩) (fun K hK => ?_); apply Exists.intro; refine ⟨fun w' hs => ?_, hK _ ?_⟩; (revert hs; dsimp only; (try simp only [and_imp]); intros; go_simp; rfl); clear hK K)
                                                                | (refine ord_keep rfl rfl (⟨⟨e4, e5⟩, ⟨e3, ea⟩, ⟨e6, e7⟩⟩) (fun K hK => ?_))
                                                                | (refine ord_drop rfl rfl (fun K hK => ?_))
                                                                | (refine ord_nil ?_))
      go_ret
      exact ⟨ret_str HST.out.symm, HM3.out⟩
theorem refRule_any (r : Rm) (ok : OkRm r) (s bv : Value) (w : World) (ht : TsAt w s r.head.terms) (hb : LsAt w bv r.body) :
    Calls Tryz.prog 46 #[rmV r s bv] w fun e w' => e = .returned (.string ⟨(rmT r).toArray⟩) ∧ Mod (fun _ => False) w w' := by
  have hfew := ok.few
  have hal := rmT_len ok
  have HALL := Lib.hid ok.all
  have HHD := Lib.hid ok.head
  have HTH := Lib.hid ht
  obtain ⟨ad, c, rfl, hr⟩ := ht
  clear hr
  obtain ⟨bd, bc, xs, rfl, hx, hrx, hxt⟩ := hb
  have HR := Lib.hid hrx; have HX := Lib.hid hx; have HXT := Lib.hid hxt
  clear hrx hx hxt
  obtain ⟨S, h0, hS, hsz, hend⟩ := acc_law (amT r.head) [32, 58, 45, 32] [44, 32] (r.body.map lmT) 80000000 (by unfold rmT at hal; rw [List.length_append] at hal; omega)
  have HEnd : Hid ((⟨(rmT r).toArray⟩ : ByteArray) = S r.body.length ++ ⟨#[46]⟩) := by
    unfold Hid
    rw [List.length_map] at hend
    rw [hend]
    apply ba_eq
    rw [ba_app]
    rfl
  have HS : Hid (∀ k (hk : k < r.body.length) (X : ByteArray), X = ⟨(lmT r.body[k]).toArray⟩ → (k = 0 → S (k + 1) = S k ++ ⟨#[32, 58, 45, 32]⟩ ++ X) ∧ (k ≠ 0 → S (k + 1) = S k ++ ⟨#[44, 32]⟩ ++ X)) := by
    intro k hk X hX
    obtain ⟨h1, h2⟩ := hS k (by simpa using hk) X (by rw [hX]; simp)
    exact ⟨h1, h2⟩
  have HZ := Lib.hid h0
  have HSZ := Lib.hid hsz
  have hsn := hsz r.body.length
  clear h0 hS hsz hend hal
  generalize rmT r = out at *
  unfold rmV
  obtain ⟨⟨pr, hts⟩, ls⟩ := r
  simp only at *
  have hc1 : (w.alloc (.cells #[.string pr, .slice ad hts.length c, .slice bd ls.length bc] 46)).cell? ⟨w.heap.size, 2, none⟩ = some (.slice bd ls.length bc) := cell_new rfl
  have hm0 : Mod (fun _ => False) w (w.alloc (.cells #[.string pr, .slice ad hts.length c, .slice bd ls.length bc] 46)) := (Mod.refl _ w).alloc _
  have HA := Lib.hid (refAtom_any ⟨pr, hts⟩ HHD.out _ _ (HTH.out.mod0 hm0))
  simp only at HA
  rw [← HZ.out] at HA
  obtain ⟨w0, hw0⟩ : ∃ w0, w0 = w.alloc (.cells #[.string pr, .slice ad hts.length c, .slice bd ls.length bc] 46) := ⟨_, rfl⟩
  have HC1 : Hid (w0.cell? ⟨w.heap.size, 2, none⟩ = some (.slice bd ls.length bc)) := by rw [hw0]; exact hc1
  have HM0 : Hid (Mod (fun _ => False) w w0) := by rw [hw0]; exact hm0
  have HMW : Hid (∀ w1, Mod (fun _ => False) (w.alloc (.cells #[.string pr, .slice ad hts.length c, .slice bd ls.length bc] 46)) w1 → Mod (fun _ => False) w0 w1) := by rw [hw0]; exact fun _ h => h
  clear hw0 hc1 hm0
  go_enter Tryz.func46, Tryz.ntmps46
  go_wp2_with fail
  refine HA.out.mono ?_
  rintro e w1 ⟨rfl, hM1⟩
  have HM1 := Lib.hid (HMW.out _ hM1)
  clear hM1 HMW HA
  go_wp2_with fail
  go_loopw [3, 4] (fun sv iv wr => ∃ (k : Nat), sv = .string (S k) ∧ iv = .int .i64 k ∧ k ≤ ls.length ∧ Hid (Mod (fun _ => False) w0 wr)) (fun _ iv _ => ls.length - (intOf iv).toNat)
  case atStart => exact ⟨0, rfl, rfl, Nat.zero_le _, HM1⟩
  case round =>
    obtain ⟨k, rfl, rfl, hk, hM⟩ := hrel
    have c1 := hM.out.cell HC1.out id
    clear HM1
    by_cases hlt : k < ls.length
    · obtain ⟨sk, hx, hmem⟩ := xs_get HX.out hlt
      obtain ⟨bb, o, rfl, x0, x1, x2, x3, x4, x5, x6, x7⟩ := rd_cell8 (HR.out.mod (HM0.out.trans hM.out) (fun _ _ => id)) hx
      have HT := Lib.hid (fun w' (m : Mod (fun _ => False) w w') => refLit_any ls[k] (HALL.out _ (List.getElem_mem hlt)) sk w' ((HXT.out _ hmem).mod0 m))
      obtain ⟨sa, sc, hsk, _⟩ := HXT.out _ hmem
      simp only at hsk
      subst hsk
      obtain ⟨X, hX⟩ : ∃ X : ByteArray, X = ⟨(lmT ls[k]).toArray⟩ := ⟨_, rfl⟩
      obtain ⟨hS1, hS2⟩ := HS.out k hlt X hX
      rw [← hX] at HT
      have hs1 := HSZ.out k
      have hs2 := HSZ.out (k + 1)
      unfold lmV at HT
      clear hX hx hmem
      generalize ls[k] = t at *
      obtain ⟨lk, ⟨lp, lts⟩, lo, ⟨ll1, ll2⟩, ⟨lr1, lr2⟩⟩ := t
      simp only at *
      by_cases hk0 : k = 0
      · subst hk0
        have e := hS1 rfl
        have hX2 : X.size ≤ 80000000 := by
          have := congrArg ByteArray.size e
          rw [ByteArray.size_append] at this
          omega
        have HE := Lib.hid e
        clear hS1 hS2 e hs2
        rw [show ((0 : Nat) : Int) = 0 from rfl]
        simp only [Nat.zero_mul, Nat.add_zero] at x0 x1 x2 x3 x4 x5 x6 x7
        go_wp2_with fail
        refine (HT.out _ (HM0.out.trans hM.out)).mono ?_
        rintro e w2 ⟨rfl, hM2⟩
        have HM2 := Lib.hid hM2; clear hM2
        go_wp2_with fail
        go_roundw
        case rel => exact ⟨0 + 1, by rw [HE.out], rfl, hlt, Lib.hid (hM.out.trans HM2.out)⟩
        case measure => simp [intOf]; omega
      · have e := hS2 hk0
        have hX2 : X.size ≤ 80000000 := by
          have := congrArg ByteArray.size e
          rw [ByteArray.size_append] at this
          omega
        have HE := Lib.hid e
        have hkb : ((k : Int) == 0) = false := by rw [beq_eq_false_iff_ne]; omega
        clear hS1 hS2 e hs2 hk0
        go_wp2_with fail
        refine (HT.out _ (HM0.out.trans hM.out)).mono ?_
        rintro e w2 ⟨rfl, hM2⟩
        have HM2 := Lib.hid hM2; clear hM2
        go_wp2_with fail
        go_roundw
        case rel => exact ⟨k + 1, by rw [HE.out], by go_num, hlt, Lib.hid (hM.out.trans HM2.out)⟩
        case measure => simp [intOf]; omega
    · obtain rfl : k = ls.length := by omega
      go_wp2_with fail
      go_ret
      exact ⟨ret_str HEnd.out.symm, HM0.out.trans hM.out⟩
theorem fit_any (X : ByteArray) (w : World) (hX : X.size < 2 ^ 40) :
    Calls Tryz.prog 45 #[.string X] w fun e w' => e = .returned (.tuple #[.string ⟨(fitT X.data.toList).1.toArray⟩, .int .i64 (fitT X.data.toList).2]) ∧ w = w' := by
  unfold fitT
  rw [← Lib.size_eq]
  by_cases h : 65536 < X.size
  · rw [if_pos h]
    go_enter Tryz.func45, Tryz.ntmps45
    go_wp2
    go_ret2
    exact ⟨rfl, rfl⟩
  · rw [if_neg h]
    go_enter Tryz.func45, Tryz.ntmps45
    go_wp2
    go_ret2
    exact ⟨rfl, rfl⟩
end Go.Proofs.YteecbbnpgmceiaaGreatDoor
