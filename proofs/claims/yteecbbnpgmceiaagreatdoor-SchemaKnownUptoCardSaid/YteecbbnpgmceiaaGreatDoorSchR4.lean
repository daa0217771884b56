/-
  The document's noted, walked.
-/
import Derived.Test.YteecbbnpgmceiaaGreatDoorSchR3
namespace Go.Proofs.YteecbbnpgmceiaaGreatDoor
open Go Go.RowKit Go.Mine
set_option linter.unusedVariables false
set_option maxHeartbeats 4000000
set_option maxRecDepth 100000

def noteAll : List Pd → Ar → List Pd
  | L, [] => L
  | L, x :: xs => noteAll (notePd L x) xs
def fitAll : List Pd → Ar → Bool
  | _, [] => true
  | L, x :: xs => fitsL (arP L) x && fitAll (notePd L x) xs
theorem notedL_eq : ∀ (L : List Pd) (us : Ar), notedL (arP L) us = if fitAll L us = true then some (arP (noteAll L us)) else none
  | L, [] => rfl
  | L, x :: xs => by
    rw [notedL, fitAll, noteAll, ← arP_note, notedL_eq (notePd L x) xs]
    cases fitsL (arP L) x <;> simp
theorem notePd_le (L : List Pd) (x : ByteArray × Nat) : (notePd L x).length ≤ L.length + 1 := by
  unfold notePd
  split
  · omega
  · simp
theorem noteAll_le : ∀ (L : List Pd) (us : Ar), (noteAll L us).length ≤ L.length + us.length
  | L, [] => by simp [noteAll]
  | L, x :: xs => by
    have h1 := noteAll_le (notePd L x) xs
    have h2 := notePd_le L x
    rw [noteAll, List.length_cons]; omega
theorem usesL_le (r : Rm) : (usesL r).length ≤ 1 + r.body.length := by
  rw [usesL_eq, List.length_cons]
  have := usesB_le r.body
  omega
theorem noted_any (a0 : Option Addr) (c0 : Nat) (L0 : List Pd) (r : Rm) (s b : Value) (w : World) (ho : Mine.Own w 134 3 a0 L0.length c0 (pdsC L0)) (hL : L0.length ≤ 2 ^ 41) (ht : TsAt w s r.head.terms) (hl : LsAt w b r.body) (hn : r.body.length ≤ 2 ^ 20) :
    Calls Tryz.prog 71 #[.slice a0 L0.length c0, rmV r s b] w fun e w' => ∃ a' c', e = .returned (.tuple #[.slice a' (noteAll L0 (usesL r)).length c', .bool (fitAll L0 (usesL r))]) ∧ Mine.Own w' 134 3 a' (noteAll L0 (usesL r)).length c' (pdsC (noteAll L0 (usesL r))) ∧ Grow w a0 w' a' := by
  have hul := usesL_le r
  have hm0 : Mod (fun _ => False) w (w.alloc (.cells #[.string r.head.pred, s, b] 46)) := (Mod.refl _ w).alloc _
  have HRU := Lib.hid (refUses_any r s b _ (ht.mod0 hm0) (hl.mod0 hm0) hn)
  have HO := Lib.hid ho
  have HM0 := Lib.hid hm0
  unfold rmV at HRU ⊢
  generalize usesL r = us at *
  have q0 := cell_new (w := w) (cs := #[.string r.head.pred, s, b]) (e := 46) (j := 0) rfl rfl
  have q1 := cell_new (w := w) (cs := #[.string r.head.pred, s, b]) (e := 46) (j := 1) rfl rfl
  have q2 := cell_new (w := w) (cs := #[.string r.head.pred, s, b]) (e := 46) (j := 2) rfl rfl
  clear ho hm0 ht hl
  obtain ⟨⟨pr, hts⟩, ls⟩ := r
  simp only at *
  go_enter Tryz.func71, Tryz.ntmps71
  go_wp2_with fail
  refine HRU.out.mono ?_
  rintro e w1 ⟨ua, uc, xs, rfl, hX, hR, hF, hM1⟩
  have hul2 : us.length ≤ 1 + 2 ^ 20 := by omega
  have hRM : ∀ (W : World) (a' : Option Addr), Grow w1 a0 W a' → Rd W ua (axsC xs) := fun W a' g => hR.mod g.mod (fun x hx e => by
    have h1 := hF x hx
    have h2 := HO.out.lt x e
    rw [World.size_alloc] at h1
    omega)
  have HX := Lib.hid hX; have HRM := Lib.hid hRM; have HM1 := Lib.hid (HM0.out.trans hM1)
  have HO1 := Lib.hid (HO.out.mod HM1.out (fun _ _ => id))
  clear hX hR hF hM1 hRM HRU q0 q1 q2 hul
  go_wp2_with fail
  go_loopw [0, 7, 8] (fun lv ov iv wr => ∃ (i : Nat) (ob : Bool) (a : Option Addr) (c : Nat) (L : List Pd), lv = .slice a L.length c ∧ ov = .bool ob ∧ iv = .int .i64 i ∧ i ≤ us.length ∧ L.length ≤ L0.length + i ∧ Hid (Mine.Own wr 134 3 a L.length c (pdsC L)) ∧
      Hid (noteAll L0 us = noteAll L (us.drop i)) ∧ Hid (fitAll L0 us = (ob && fitAll L (us.drop i))) ∧ Hid (Grow w1 a0 wr a)) (fun _ _ iv _ => us.length - (intOf iv).toNat)
  case atStart => exact ⟨0, true, a0, c0, L0, rfl, rfl, rfl, Nat.zero_le _, Nat.le_refl _, HO1, rfl, rfl, Lib.hid (Grow.refl _ _)⟩
  case round =>
    obtain ⟨i, ob, a, c, L, rfl, rfl, rfl, hi, hLi, hO, hN, hFi, hG⟩ := hrel
    by_cases hlt : i < us.length
    · have hxl : xs.length = us.length := by rw [← HX.out, List.length_map]
      obtain ⟨ub, uo, rfl, _⟩ := rd_cellA (HRM.out _ _ hG.out) (i := i) (by omega)
      have hxi : xs[i].1 = us[i] := by
        have h1 : (xs.map Prod.fst)[i]? = some xs[i].1 := by rw [List.getElem?_map, List.getElem?_eq_getElem (by omega)]; rfl
        rw [HX.out, List.getElem?_eq_getElem hlt] at h1
        exact (Option.some.inj h1).symm
      have hSS : ∀ (W : World) (a' : Option Addr), Grow w1 a0 W a' → W.cell? ⟨ub, uo + i * 2, none⟩ = some (.string xs[i].1.1) ∧ W.cell? ⟨ub, uo + i * 2 + 1, none⟩ = some (.slice xs[i].2.1 xs[i].1.2 xs[i].2.2) := fun W a' g => by
        obtain ⟨b', o', e, y0, y1⟩ := rd_cellA (HRM.out _ _ g) (i := i) (by omega)
        cases e
        exact ⟨y0, y1⟩
      have hd : us.drop i = us[i] :: us.drop (i + 1) := List.drop_eq_getElem_cons hlt
      have hn2 := hN.out; have hf2 := hFi.out
      rw [hd, noteAll] at hn2
      rw [hd, fitAll] at hf2
      have HN2 := Lib.hid hn2; have HF2 := Lib.hid hf2
      rw [← hxi] at HN2 HF2
      clear hn2 hf2 hd hxi hN hFi
      generalize xs[i] = t at *
      obtain ⟨⟨tn, ta⟩, ⟨tad, tcp⟩⟩ := t
      simp only at hSS HN2 HF2
      have HSS := Lib.hid hSS
      obtain ⟨x0, x1⟩ := hSS _ _ hG.out
      have hll : L.length ≤ 2 ^ 41 + 2 ^ 30 := by omega
      have HNA := Lib.hid (note_any a c L tn ta wr.drew (hO.out.drew) hll)
      have HNL := Lib.hid (notePd_le L (tn, ta))
      clear hSS
      generalize notePd L (tn, ta) = L2 at *
      generalize fitsL (arP L) (tn, ta) = fb at *
      cases ob
      · skip
        go_wp2_with fail
        refine wp_region_ord (fun W => W.cell? ⟨ub, uo + i * 2, none⟩ = some (.string tn) ∧ W.cell? ⟨ub, uo + i * 2 + 1, none⟩ = some (.slice tad ta tcp)) [(0, 0), (0, 1), (0, 2), (0, 3), (0, 4), (1, 5), (0, 6), (0, 7), (0, 8), (0, 9), (1, 10), (0, 11), (3, 12), (0, 13), (0, 14), (0, 15), (0, 16), (0, 17)] (by kernel_rfl) (by kernel_rfl) ?_
        go_wp2_with (first
          | (refine ord_pure rfl rfl rfl (fun K hK => ?_); go_big_quiet_op; refine hK _ ?_; clear hK K)
                                                                | (refine ord_skip rfl rfl ?_; simp only [Act.put, List.setIfInBounds_toArray, List.set_cons_zero, List.set_cons_succ])
                                                                | (refine ord_held rfl rfl rfl (⟨x0, x1⟩) (fun K hK => ?_); apply Exists.intro; refine ⟨fun w' hs => ?_, hK _ ?_⟩; (revert hs; dsimp only; (try simp only [and_imp]); intros; go_simp; rfl); clear hK K)
                                                                | (refine ord_keep rfl rfl (⟨x0, x1⟩) (fun K hK => ?_))
                                                                | (refine ord_drop rfl rfl (fun K hK => ?_))
                                                                | (refine ord_nil ?_))
        refine HNA.out.mono ?_
        rintro e w2 ⟨a2, c2, rfl, hO2, hG2⟩
        have hgd : Grow w1 a0 wr.drew a := ⟨hG.out.mod.drew, hG.out.pos⟩
        have HG2 := Lib.hid (hgd.trans hG2)
        have HO2 := Lib.hid hO2
        clear hgd hO2 hG2
        refine hK _ _ ?_; clear hK K
        go_wp2_with (first
          | (refine ord_pure rfl rfl rfl (fun K hK => ?_); go_big_quiet_op; refine hK _ ?_; clear hK K)
                                                                | (refine ord_skip rfl rfl ?_; simp only [Act.put, List.setIfInBounds_toArray, List.set_cons_zero, List.set_cons_succ])
                                                                | (refine ord_held rfl rfl rfl (trivial) (fun K hK => ?_); apply Exists.intro; refine ⟨fun w' hs => ?_, hK _ ?_⟩; (revert hs; dsimp only; (try simp only [and_imp]); intros; go_simp; rfl); clear hK K)
                                                                | (refine ord_keep rfl rfl (trivial) (fun K hK => ?_))
                                                                | (refine ord_drop rfl rfl (fun K hK => ?_))
                                                                | (refine ord_nil ?_))
        go_roundw
        case rel => exact ⟨i + 1, false, a2, c2, L2, rfl, rfl, by go_num, hlt, by have := HNL.out; omega, HO2, HN2, Lib.hid (by rw [HF2.out]; simp), HG2⟩
        case measure => simp [intOf]; omega
      · skip
        go_wp2_with fail
        refine wp_region_ord (fun W => W.cell? ⟨ub, uo + i * 2, none⟩ = some (.string tn) ∧ W.cell? ⟨ub, uo + i * 2 + 1, none⟩ = some (.slice tad ta tcp)) [(0, 0), (0, 1), (0, 2), (0, 3), (0, 4), (1, 5), (0, 6), (0, 7), (0, 8), (0, 9), (1, 10), (0, 11), (3, 12), (0, 13), (0, 14), (0, 15), (0, 16), (0, 17)] (by kernel_rfl) (by kernel_rfl) ?_
        go_wp2_with (first
          | (refine ord_pure rfl rfl rfl (fun K hK => ?_); go_big_quiet_op; refine hK _ ?_; clear hK K)
                                                                | (refine ord_skip rfl rfl ?_; simp only [Act.put, List.setIfInBounds_toArray, List.set_cons_zero, List.set_cons_succ])
                                                                | (refine ord_held rfl rfl rfl (⟨x0, x1⟩) (fun K hK => ?_); apply Exists.intro; refine ⟨fun w' hs => ?_, hK _ ?_⟩; (revert hs; dsimp only; (try simp only [and_imp]); intros; go_simp; rfl); clear hK K)
                                                                | (refine ord_keep rfl rfl (⟨x0, x1⟩) (fun K hK => ?_))
                                                                | (refine ord_drop rfl rfl (fun K hK => ?_))
                                                                | (refine ord_nil ?_))
        refine HNA.out.mono ?_
        rintro e w2 ⟨a2, c2, rfl, hO2, hG2⟩
        have hgd : Grow w1 a0 wr.drew a := ⟨hG.out.mod.drew, hG.out.pos⟩
        have HG2 := Lib.hid (hgd.trans hG2)
        have HO2 := Lib.hid hO2
        clear hgd hO2 hG2
        refine hK _ _ ?_; clear hK K
        go_wp2_with (first
          | (refine ord_pure rfl rfl rfl (fun K hK => ?_); go_big_quiet_op; refine hK _ ?_; clear hK K)
                                                                | (refine ord_skip rfl rfl ?_; simp only [Act.put, List.setIfInBounds_toArray, List.set_cons_zero, List.set_cons_succ])
                                                                | (refine ord_held rfl rfl rfl (trivial) (fun K hK => ?_); apply Exists.intro; refine ⟨fun w' hs => ?_, hK _ ?_⟩; (revert hs; dsimp only; (try simp only [and_imp]); intros; go_simp; rfl); clear hK K)
                                                                | (refine ord_keep rfl rfl (trivial) (fun K hK => ?_))
                                                                | (refine ord_drop rfl rfl (fun K hK => ?_))
                                                                | (refine ord_nil ?_))
        go_roundw
        case rel => exact ⟨i + 1, fb, a2, c2, L2, rfl, rfl, by go_num, hlt, by have := HNL.out; omega, HO2, HN2, Lib.hid (by rw [HF2.out]; simp), HG2⟩
        case measure => simp [intOf]; omega
    · obtain rfl : i = us.length := by omega
      have hn2 := hN.out; have hf2 := hFi.out
      rw [List.drop_length, noteAll] at hn2
      rw [List.drop_length, fitAll, Bool.and_true] at hf2
      have HN3 := Lib.hid hn2; have HF3 := Lib.hid hf2
      clear hn2 hf2 hN hFi
      go_wp2_with fail
      exact bodyPost_ret (results_tmp2 rfl _ _ _) rfl ⟨a, c, by rw [HN3.out, HF3.out]; rfl, by rw [HN3.out]; exact hO.out, Grow.pre0 HM1.out hG.out⟩
end Go.Proofs.YteecbbnpgmceiaaGreatDoor
