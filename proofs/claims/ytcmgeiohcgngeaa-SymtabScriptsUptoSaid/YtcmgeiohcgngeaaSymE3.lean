/-
  SymtabScripts, walked.
-/
import Derived.Test.YtcmgeiohcgngeaaSymEa
namespace Go.Proofs.Ytcmgeiohcgngeaa
open Go Go.RowKit Go.Mine Go.Maps Go.Shelf
set_option linter.unusedVariables false
set_option maxHeartbeats 8000000
set_option maxRecDepth 100000
attribute [local go_sem] Oper.semAt_some
@[local go_sem, local simp] theorem wide_fnZ (f : FuncId) : Fence.wide.fn f = True := rfl
@[local go_sem, local simp] theorem wide_depthZ : Fence.wide.depth = none := rfl

/-- an operation's texts lie ahead of the call -/
def OpOk (w : World) (o : OpS) : Prop := Rd w o.ta (sts o.xs) ∧ o.xs.length < 2 ^ 40 ∧ ∀ x ∈ o.xs, x.size < 2 ^ 40
theorem OpOk.mod {w w' : World} {o : OpS} (h : OpOk w o) (m : Mod (fun _ => False) w w') : OpOk w' o :=
  ⟨h.1.mod m (fun _ _ => id), h.2⟩
theorem costO_take (os : List OpS) (k : Nat) : costO (os.take k) ≤ costO os := by
  have : costO os = costO (os.take k) + costO (os.drop k) := by
    conv => lhs; rw [← List.take_append_drop k os]
    unfold costO
    rw [List.map_append, List.sum_append]
  omega
theorem okT_nil : OkT [] := ⟨by simp, by simp⟩
theorem scripts_walk (n : Int) (a : Option Addr) (c : Nat) (os : List OpS) (w : World) (hR : Rd w a (opsC os)) (hn : os.length < 2 ^ 40) (ho : ∀ o ∈ os, OpOk w o) :
    Calls Try.prog 3 #[.int .i64 n, .slice a os.length c] w fun e w' => e = .returned (.bool true) ∧ Mod (fun _ => False) w w' := by
  have HR := Lib.hid hR; have HO := Lib.hid ho
  have m0 : Mod (fun _ => False) w (w.alloc (.cells #[.bool false] 4)) := (Mod.refl _ w).alloc _
  have b0 := Boxed.new w 4 (.bool false)
  have c0 := b0.cell; have f0 := b0.frozen
  have HMU := Lib.hid (much_any a c os _ (hR.mod m0 (fun _ _ => id)) hn (fun o h => (ho o h).2.1))
  clear hR ho
  refine (callsIn_wide (n := 3)).1 ?_
  refine callsIn_of_wp_marks Try.func3 rfl trivial ?_ rfl
  simp only [Try.ntmps3, List.size_toArray, List.length_cons, List.length_nil, Nat.reduceAdd, Nat.reduceSub, Array.replicate_succ, Array.replicate_zero, List.push_toArray, List.append_toArray, List.nil_append, List.cons_append]
  refine (wpIn_wide (n := 3)).2 ?_
  go_wp2_with fail
  refine HMU.out.mono ?_
  rintro e w1 ⟨⟨b, rfl, hb⟩, hw1⟩
  obtain ⟨wb, hwb⟩ : ∃ wb, wb = w.alloc (.cells #[.bool false] 4) := ⟨_, rfl⟩
  rw [← hwb] at m0 b0 c0 f0 hw1
  subst hw1
  clear hwb HMU
  have HM := Lib.hid m0; have HB := Lib.hid b0
  clear m0 b0
  cases b with
  | true =>
    clear hb
    go_wp2_with fail
    have hb2 := bx_put HB.out (.bool true)
    have c2 := hb2.cell
    refine ⟨.bool true, by simp [results, Try.f3, go_sem, c2], rfl, HM.out.setCell (fun h => ?_) _⟩
    have : w.heap.size < w.heap.size := h
    omega
  | false =>
    have HCO := Lib.hid (hb rfl)
    clear hb c0 f0
    go_wp2_with fail
    have hrd : Calls Try.prog 5 #[.int .i64 n, .int .i64 4] wb fun e w' => (∃ r : Nat, r < 4 ∧ e = .returned (.int .i64 (r : Nat))) ∧ wb = w' := round_any n 4 (by omega) (by omega) wb
    refine hrd.mono ?_
    rintro e w1 ⟨⟨r, hr4, rfl⟩, hw1⟩
    obtain rfl : wb = w1 := hw1
    clear hrd
    obtain ⟨n0, hn0⟩ : ∃ n0 : Nat, n0 = 1 + r := ⟨_, rfl⟩
    have hi0 : (1 : Int) + (r : Nat) = (n0 : Nat) := by omega
    have hn5 : n0 < 5 := by omega
    clear hn0
    have hwl : w.heap.size < wb.heap.size := HB.out.lt
    have HWL := Lib.hid hwl
    clear hwl
    go_wp2_with fail
    go_loopw [5, 6, 7, 8] (fun tv mv iv _ wr => ∃ (k : Nat) (ps : List PrD) (ta : Option Addr) (tc : Nat) (ma : Option Addr) (mc : Nat), iv = .int .i64 k ∧ k ≤ n0 ∧ tv = .slice ta k tc ∧ mv = .slice ma k mc ∧ Hid (ps.length = k) ∧ Hid (∀ p ∈ ps, p.l = []) ∧ Hid (Fam wb.heap.size wr (ownI 27 1 ta k tc (tbV ps) :: ownI 29 1 ma k mc (mdV ps) :: ps.map prI)) ∧ Hid (Mod (fun _ => False) wb wr)) (fun _ _ iv _ _ => n0 - (intOf iv).toNat)
    case atStart => exact ⟨0, [], none, 0, none, 0, rfl, Nat.zero_le _, rfl, rfl, Lib.hid rfl, Lib.hid (fun p h => by cases h), Lib.hid (scr_nil (Nat.le_refl _)), Lib.hid (Mod.refl _ _)⟩
    case round =>
      obtain ⟨k, ps, ta, tc, ma, mc, rfl, hk, rfl, rfl, hpl, hp0, hF, hM⟩ := hrel
      by_cases hlt : k < n0
      · go_wp2_with fail
        refine (new_any wr).mono ?_
        rintro e w2 ⟨T, B, rfl, hT, hTl, hBl, hM2⟩
        have HT := Lib.hid hT; have HTL := Lib.hid hTl; have HBL := Lib.hid hBl; have HM2 := Lib.hid hM2
        have HO2 : Hid (Mine.Own w2 27 1 ta k tc (tbV ps)) := Lib.hid ((hF.out.at_ (ownI 27 1 ta k tc (tbV ps)) (List.mem_cons_self ..) : Mine.Own wr _ 1 ta k tc _).mod hM2 (fun _ _ => id))
        clear hT hTl hBl hM2
        go_wp2_with (first
          | (at_builtin; refine wpL_appendN (us := [.pointer (some ⟨T, 0, none⟩)]) rfl (.tmp 35) (.tmp 37) 25 rfl tiTb rfl HO2.out rfl rfl rfl (by omega) (by unfold maxLen; omega) ?_; intro a4 c4 w4 hO4 hG4 _
             have HO5 := Lib.hid (scr_mid (.cells #[.slice none 0 0] 32) hF.out HM2.out hO4 hG4)
             have HO4 := Lib.hid hO4; have HG4 := Lib.hid hG4
             clear hO4 hG4)
          | (at_builtin; refine wpL_appendN (us := [.pointer (some ⟨w4.heap.size, 0, none⟩)]) rfl (.tmp 39) (.tmp 42) 26 rfl tiMd rfl HO5.out rfl rfl rfl (by omega) (by unfold maxLen; omega) ?_; intro a6 c6 w6 hO6 hG6 _
             have HO6 := Lib.hid hO6; have HG6 := Lib.hid hG6
             clear hO6 hG6))
        have m5 : Mod (fun _ => False) w4 (w4.alloc (.cells #[.slice none 0 0] 32)) := (Mod.refl _ w4).alloc _
        have hr5 : RbAt (w4.alloc (.cells #[.slice none 0 0] 32)) w4.heap.size none 0 [] := ⟨heap_alloc_new w4 _, Mine.Own.nil _ _ _, by simp⟩
        have hF6 := scr_push hF.out HM2.out HT.out HTL.out HBL.out HO4.out HG4.out m5 hr5 (Nat.le_refl _) HO6.out HG6.out
        have HF6 := Lib.hid hF6
        have HM6 : Hid (Mod (fun _ => False) wb w6) := Lib.hid ((((hM.out.trans HM2.out).step HG4.out.mod (fun i hi e => by
          have := hF.out.lo (ownI 27 1 ta k tc (tbV ps)) (by simp) i e; omega)).trans m5).step HG6.out.mod (fun i hi e => by
          have := hF.out.lo (ownI 29 1 ma k mc (mdV ps)) (by simp) i e; omega))
        clear m5 hr5 hF6
        go_roundw
        case rel => exact ⟨k + 1, ps ++ [⟨T, w4.heap.size, B, none, 0, none, 0, []⟩], a4, c4, a6, c6, by go_num, hlt, rfl, rfl, Lib.hid (by rw [List.length_append, hpl.out]; rfl), Lib.hid (fun p hp => by
          rcases List.mem_append.1 hp with hp | hp
          · exact hp0.out p hp
          · rw [List.mem_singleton] at hp; rw [hp]), HF6, HM6⟩
        case measure => simp [intOf]; omega
      · obtain rfl : k = n0 := by omega
        have HO2 : Hid (Mine.Own wr 27 1 ta k tc (tbV ps)) := Lib.hid (hF.out.at_ (ownI 27 1 ta k tc (tbV ps)) (List.mem_cons_self ..))
        go_wp2_with (first
          | (at_builtin; refine wpL_appendN (us := [.pointer none]) rfl (.tmp 44) (.tmp 45) 25 rfl tiTb rfl HO2.out rfl rfl rfl (by omega) (by unfold maxLen; omega) ?_; intro a4 c4 w4 hO4 hG4 _
             have HO5 := Lib.hid (scr_mid0 hF.out hO4 hG4)
             have HO4 := Lib.hid hO4; have HG4 := Lib.hid hG4
             clear hO4 hG4)
          | (at_builtin; refine wpL_appendN (us := [.pointer none]) rfl (.tmp 47) (.tmp 48) 26 rfl tiMd rfl HO5.out rfl rfl rfl (by omega) (by unfold maxLen; omega) ?_; intro a6 c6 w6 hO6 hG6 _
             have HO6 := Lib.hid hO6; have HG6 := Lib.hid hG6
             clear hO6 hG6))
        have HF6 := Lib.hid (scr_last hF.out HO4.out HG4.out HO6.out HG6.out)
        have HM6 : Hid (Mod (fun _ => False) wb w6) := Lib.hid ((hM.out.step HG4.out.mod (fun i hi e => by
          have := hF.out.lo (ownI 27 1 ta k tc (tbV ps)) (by simp) i e; omega)).step HG6.out.mod (fun i hi e => by
          have := hF.out.lo (ownI 29 1 ma k mc (mdV ps)) (by simp) i e; omega))
        have HS : Hid (Scr wb.heap.size wb a4 c4 a6 c6 (tbV ps ++ [.pointer none]) (mdV ps ++ [.pointer none]) k 0 w6) :=
          Lib.hid ⟨⟨ps, hpl.out, rfl, rfl, fun q hq => by rw [hp0.out q hq]; exact ⟨okT_nil, Nat.le_refl _⟩, HF6.out⟩, HM6.out⟩
        clear hF hM HO2 HO4 HG4 HO5 HO6 HG6 HF6 HM6 hpl hp0
        generalize tbV ps ++ [.pointer none] = tv at HS
        generalize mdV ps ++ [.pointer none] = mv at HS
        have HRB := Lib.hid (HR.out.mod HM.out (fun _ _ => id))
        have HOB : Hid (∀ o ∈ os, OpOk wb o) := Lib.hid (fun o h => (HO.out o h).mod HM.out)
        go_wp2_with fail
        go_loopw [9, 10, 11] (fun iv _ _ wr => ∃ j : Nat, iv = .int .i64 j ∧ j ≤ os.length ∧ Hid (Scr wb.heap.size wb a4 c4 a6 c6 tv mv k (costO (os.take j)) wr)) (fun iv _ _ _ => os.length - (intOf iv).toNat)
        case atStart => exact ⟨0, rfl, Nat.zero_le _, HS⟩
        case round =>
          clear HS
          obtain ⟨j, rfl, hj, hS⟩ := hrel
          by_cases hlt : j < os.length
          · obtain ⟨ob, oo, rfl, x0, x1, x2, x3⟩ := op_cell (HRB.out.mod hS.out.md (fun _ _ => id)) hlt
            have hop := HOB.out _ (List.getElem_mem hlt)
            have htk : os.take (j + 1) = os.take j ++ [os[j]] := List.take_succ_eq_append_getElem hlt
            have hct : costO (os.take (j + 1)) ≤ 5000 := Nat.le_trans (costO_take _ _) HCO.out
            obtain ⟨p, hp⟩ : ∃ p, p = os[j] := ⟨_, rfl⟩
            rw [← hp] at x0 x1 x2 x3 hop htk
            rw [htk, costO_snoc] at hct
            have HTK := Lib.hid htk; have HOP := Lib.hid hop; have HCT := Lib.hid hct
            clear hp htk hop hct
            go_wp2_with fail
            refine (round_any p.wh (k + 1) (by omega) (by omega) wr).mono ?_
            rintro e w1 ⟨⟨q, hq, rfl⟩, hw1⟩
            obtain rfl : wr = w1 := hw1
            obtain ⟨tp, mp, b1, o1, b2, o2, rfl, rfl, t0, m0, hC⟩ := hS.out.step (Nat.le_refl _) hq p.kd p.wh p.N p.ta p.tc p.xs HOP.out.1 (by have := HCT.out; omega) HOP.out.2.2
            have HC := Lib.hid hC
            clear hC
            go_wp2_with fail
            refine wp_region_ord (fun w' => (w'.cell? ⟨b1, o1 + q, none⟩ = some tp ∧ w'.cell? ⟨b2, o2 + q, none⟩ = some mp) ∧ (w'.cell? ⟨ob, oo + j * 4, none⟩ = some (.int .i64 p.kd) ∧ w'.cell? ⟨ob, oo + j * 4 + 1, none⟩ = some (.int .i64 p.wh) ∧ w'.cell? ⟨ob, oo + j * 4 + 2, none⟩ = some (.slice p.ta p.xs.length p.tc) ∧ w'.cell? ⟨ob, oo + j * 4 + 3, none⟩ = some (.int .i64 p.N))) [(0, 0), (0, 1), (0, 2), (1, 3), (0, 4), (0, 5), (0, 6), (1, 7), (0, 8), (0, 9), (0, 10), (1, 11), (3, 12), (0, 13)] (by kernel_rfl) (by kernel_rfl) ?_
            go_wp2_with (first
              | (refine ord_pure rfl rfl rfl (fun K hK => ?_); go_big_quiet_op; refine hK _ ?_; clear hK K)
                                                                | (refine ord_skip rfl rfl ?_; simp only [Act.put, List.setIfInBounds_toArray, List.set_cons_zero, List.set_cons_succ])
                                                                | (refine ord_held rfl rfl rfl (⟨⟨t0, m0⟩, x0, x1, x2, x3⟩) (fun K hK => ?_); apply Exists.intro; refine ⟨fun w' hs => ?_, hK _ ?_⟩; (revert hs; dsimp only; (try simp only [and_imp]); intros; go_simp; rfl); clear hK K)
                                                                | (refine ord_keep rfl rfl (⟨⟨t0, m0⟩, x0, x1, x2, x3⟩) (fun K hK => ?_))
                                                                | (refine ord_drop rfl rfl (fun K hK => ?_))
                                                                | (refine ord_nil ?_))
            refine (HC.out _ (Mod.refl _ wr).drew).mono ?_
            rintro e w2 ⟨rfl, hs2⟩
            have HS2 : Hid (Scr wb.heap.size wb (some ⟨b1, o1, none⟩) c4 (some ⟨b2, o2, none⟩) c6 tv mv k (costO (os.take (j + 1))) w2) := by
              rw [HTK.out, costO_snoc]
              exact Lib.hid (hs2.le (by omega))
            clear hs2 t0 m0 x0 x1 x2 x3 hS HC
            go_wp2_with (first
              | (refine ord_pure rfl rfl rfl (fun K hK => ?_); go_big_quiet_op; refine hK _ ?_; clear hK K)
                                                                | (refine ord_skip rfl rfl ?_; simp only [Act.put, List.setIfInBounds_toArray, List.set_cons_zero, List.set_cons_succ])
                                                                | (refine ord_held rfl rfl rfl (trivial) (fun K hK => ?_); apply Exists.intro; refine ⟨fun w' hs => ?_, hK _ ?_⟩; (revert hs; dsimp only; (try simp only [and_imp]); intros; go_simp; rfl); clear hK K)
                                                                | (refine ord_keep rfl rfl (trivial) (fun K hK => ?_))
                                                                | (refine ord_drop rfl rfl (fun K hK => ?_))
                                                                | (refine ord_nil ?_))
            go_roundw
            case rel => exact ⟨j + 1, by go_num, hlt, HS2⟩
            case measure => simp [intOf]; omega
          · obtain rfl : j = os.length := by omega
            have HS := Lib.hid (hS.out.le (n' := 5000) (Nat.le_trans (costO_take _ _) HCO.out))
            clear hS HRB HOB
            go_wp2_with fail
            go_loopw [12, 13] (fun iv _ wv => ∃ i : Nat, iv = .int .i64 i ∧ i ≤ k + 1 ∧ Hid (Scr wb.heap.size wb a4 c4 a6 c6 tv mv k 5000 wv)) (fun iv _ _ => k + 1 - (intOf iv).toNat)
            case atStart => exact ⟨0, rfl, Nat.zero_le _, HS⟩
            case round =>
              clear HS
              obtain ⟨i, rfl, hi, hS⟩ := hrel
              by_cases hlt : i < k + 1
              · obtain ⟨tp, mp, b1, o1, b2, o2, rfl, rfl, t0, m0, hC⟩ := hS.out.step (Nat.le_refl _) hlt 5 0 0 none 0 [] (Rd.nil _ _) (by decide) (by simp)
                have HC := Lib.hid hC
                clear hC
                go_wp2_with fail
                refine wp_region_ord (fun w' => w'.cell? ⟨b1, o1 + i, none⟩ = some tp ∧ w'.cell? ⟨b2, o2 + i, none⟩ = some mp) [(0, 0), (0, 1), (0, 2), (1, 3), (0, 4), (0, 5), (0, 6), (1, 7), (0, 8), (3, 9), (0, 10)] (by kernel_rfl) (by kernel_rfl) ?_
                go_wp2_with (first
                  | (refine ord_pure rfl rfl rfl (fun K hK => ?_); go_big_quiet_op; refine hK _ ?_; clear hK K)
                                                                | (refine ord_skip rfl rfl ?_; simp only [Act.put, List.setIfInBounds_toArray, List.set_cons_zero, List.set_cons_succ])
                                                                | (refine ord_held rfl rfl rfl (⟨t0, m0⟩) (fun K hK => ?_); apply Exists.intro; refine ⟨fun w' hs => ?_, hK _ ?_⟩; (revert hs; dsimp only; (try simp only [and_imp]); intros; go_simp; rfl); clear hK K)
                                                                | (refine ord_keep rfl rfl (⟨t0, m0⟩) (fun K hK => ?_))
                                                                | (refine ord_drop rfl rfl (fun K hK => ?_))
                                                                | (refine ord_nil ?_))
                refine (HC.out _ (Mod.refl _ wr).drew).mono ?_
                rintro e w2 ⟨rfl, hs2⟩
                have HS2 := Lib.hid hs2
                clear hs2 t0 m0 hS HC
                go_wp2_with (first
                  | (refine ord_pure rfl rfl rfl (fun K hK => ?_); go_big_quiet_op; refine hK _ ?_; clear hK K)
                                                                | (refine ord_skip rfl rfl ?_; simp only [Act.put, List.setIfInBounds_toArray, List.set_cons_zero, List.set_cons_succ])
                                                                | (refine ord_held rfl rfl rfl (trivial) (fun K hK => ?_); apply Exists.intro; refine ⟨fun w' hs => ?_, hK _ ?_⟩; (revert hs; dsimp only; (try simp only [and_imp]); intros; go_simp; rfl); clear hK K)
                                                                | (refine ord_keep rfl rfl (trivial) (fun K hK => ?_))
                                                                | (refine ord_drop rfl rfl (fun K hK => ?_))
                                                                | (refine ord_nil ?_))
                go_roundw
                case rel => exact ⟨i + 1, by go_num, hlt, HS2⟩
                case measure => simp [intOf]; omega
              · obtain rfl : i = k + 1 := by omega
                have HMW := Lib.hid hS.out.md
                clear hS
                go_wp2_with fail
                have hz : ∀ W, Mod (fun _ => False) (wr.alloc (.cells #[.slice none 0 0, .map none] 38)) W → W.cell? ⟨wr.heap.size, 1, none⟩ = some (.map none) := fun W m => m.cell (cell_at (heap_alloc_new wr _) rfl) id
                have hz2 : ∀ W, Mod (fun _ => False) ((wr.alloc (.cells #[.slice none 0 0, .map none] 38)).alloc (.cells #[.string ⟨#[97]⟩] 9)) W → W.cell? ⟨wr.heap.size, 1, none⟩ = some (.map none) := fun W m => hz W (((Mod.refl _ _).alloc _).trans m)
                have mz : Mod (fun _ => False) wb ((wr.alloc (.cells #[.slice none 0 0, .map none] 38)).alloc (.cells #[.string ⟨#[97]⟩] 9)) := (HMW.out.alloc _).alloc _
                clear HMW hz
                generalize (wr.alloc (.cells #[.slice none 0 0, .map none] 38)).alloc (.cells #[.string ⟨#[97]⟩] 9) = wz at *
                have HZ := Lib.hid hz2; have HMZ := Lib.hid mz
                clear hz2 mz
                generalize wr.heap.size = T at *
                refine (put_zero T (.slice none 0 0) _ wz (HZ.out wz (Mod.refl _ _))).mono ?_
                rintro e w9 ⟨rfl, hw9⟩
                obtain rfl : wz = w9 := hw9
                go_wp2_with fail
                refine (find_zero T (.slice none 0 0) _ wz (HZ.out wz (Mod.refl _ _))).mono ?_
                rintro e w9 ⟨rfl, hw9⟩
                obtain rfl : wz = w9 := hw9
                go_wp2_with fail
                refine (text_zero T (.slice none 0 0) _ wz (HZ.out wz (Mod.refl _ _))).mono ?_
                rintro e w9 ⟨rfl, hw9⟩
                obtain rfl : wz = w9 := hw9
                go_wp2_with fail
                refine (all_any (some ⟨T, 0, none⟩) wz).mono ?_
                rintro e w9 ⟨rfl, hw9⟩
                have m9 : Mod (fun _ => False) wz w9 := by rw [hw9]; exact (Mod.refl _ wz).alloc _
                have hV : w9.heap[wz.heap.size]? = some (.cells #[.pointer (some ⟨T, 0, none⟩)] 27 (0, 0)) := by rw [hw9]; exact heap_alloc_new wz _
                have hsn := seq_nil wz.heap.size w9
                have HM9 := Lib.hid m9; have HV := Lib.hid hV
                clear hw9 m9 hV
                generalize wz.heap.size = V at *
                go_wp2_with fail
                clear hsn
                have hSeq := all_stops0 2 V (some ⟨T, 0, none⟩) w9 HV.out (fun W m => len_zero T (.slice none 0 0) W (HZ.out W (HM9.out.trans m)))
                have hKb : ∀ (W : World) (l : Nat) (o o' : Obj), w9.heap.size ≤ l → W.heap[l]? = some o → o.isCells = false → o.isWalk = false → KpR 0 W (W.putObj l o') := KpR.putObj (w := w9) (Nat.zero_le _)
                refine (wpIn_wide (n := 3)).1 ?_
                refine wpIn_range0 rfl (by omega) (gf := 32) (lb := #[.pointer (some ⟨V, 0, none⟩)]) rfl trivial (enters_of Try.func32 (by kernel_rfl) rfl)
                  hSeq (fun h k => KpR.trans h k) hKb (Below.refl _ _) (fun _ => rfl) (fun _ W => Mod (fun _ => False) w9 W) ?own (Mod.refl _ _) ?ass ?done
                case own =>
                  rintro pre W W' row h hg hr
                  exact Mod.turned h hg (fun r e => (hr r e).1)
                case ass =>
                  intro l b W K hK
                  exact wpIn_skip hK
                case done =>
                  rintro D ys W hD he hm hDW
                  have hM : Mod (fun _ => False) wz W := HM9.out.trans hm
                  have HMW := Lib.hid hM; have HD := Lib.hid hDW; have HDD := Lib.hid (Nat.le_trans HM9.out.size hD)
                  clear hSeq hKb hD he hm hM hDW HV HM9
                  go_wp2_with fail
                  refine (len_zero T (.slice none 0 0) W (HZ.out W HMW.out)).mono ?_
                  rintro e w10 ⟨rfl, hw10⟩
                  obtain rfl : W = w10 := hw10
                  go_wp2_with fail
                  refine (rising_zero T (.slice none 0 0) W (HZ.out W HMW.out)).mono ?_
                  rintro e w10 ⟨rfl, m10⟩
                  have HM10 := Lib.hid (HMW.out.trans m10); have HN10 := Lib.hid m10
                  clear m10
                  go_wp2_with fail
                  refine (ranks_zero T (.slice none 0 0) w10 (HZ.out w10 HM10.out)).mono ?_
                  rintro e w11 ⟨ra, rc, rfl, -, -, m11⟩
                  have HM11 := Lib.hid (HM10.out.trans m11); have HN11 := Lib.hid (HN10.out.trans m11)
                  clear m11
                  go_wp2_with fail
                  refine (page_none (none_zero T (.slice none 0 0) w11 (HZ.out w11 HM11.out))).mono ?_
                  rintro e w12 ⟨rfl, hw12⟩
                  obtain rfl : w11 = w12 := hw12
                  have HMA := Lib.hid (HMZ.out.trans HM11.out)
                  have HBA := Lib.hid (bx_mod HB.out HMA.out id)
                  have c0 := HBA.out.cell
                  have f0 := HBA.out.frozen
                  have HLT := Lib.hid HB.out.lt
                  clear HM10 HN10
                  go_wp2_with fail
                  have hs5 : Mod (fun i => i = w.heap.size) w11 (w11.setCell ⟨w.heap.size, 0, none⟩ (.bool true)) := (Mod.refl (fun i => i = w.heap.size) w11).setCell (p := ⟨w.heap.size, 0, none⟩) (fun _ => rfl) _
                  have hb5 := bx_put HBA.out (.bool true)
                  generalize w11.setCell ⟨w.heap.size, 0, none⟩ (.bool true) = W' at *
                  have hD0 := HD.out
                  have hlt0 := HLT.out
                  have hwz := HMZ.out.size
                  have hdd := HDD.out
                  have hK' := hs5.at (HN11.out.at hD0 id) (by omega)
                  have hG := Mod.ofGrown (grownBy_putObj' W' D (.deferred none))
                  refine ⟨by simp, .inl ⟨_, _, rfl, run_takeDeferred hK', ?_⟩⟩
                  have c6 := (bx_mod hb5 hG (fun e => by cases e; omega)).cell
                  refine ⟨.bool true, ?_, rfl, ((HM.out.trans HMA.out).step hs5 (fun i hi e => by omega)).step hG (fun i hi e => by cases e; omega)⟩
                  simp [results, Try.f3, go_sem, c6]
end Go.Proofs.Ytcmgeiohcgngeaa
