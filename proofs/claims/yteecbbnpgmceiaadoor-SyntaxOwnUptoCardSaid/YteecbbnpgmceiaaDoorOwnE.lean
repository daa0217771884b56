/-
  SyntaxOwn: markRules, walked.
-/
import Derived.Test.YteecbbnpgmceiaaDoorOwAB
namespace Go.Proofs.YteecbbnpgmceiaaDoor
open Go Go.RowKit Go.Mine
set_option linter.unusedVariables false
set_option maxHeartbeats 4000000
set_option maxRecDepth 100000

theorem tiRs : TI Tryd.prog 28 31 1 24 := TI.mk' (z := .slice none 0 0) (by kernel_rfl) (by kernel_rfl) rfl (by omega)
def mkR (n : Nat) : List Value := [.string (txt3 n), .slice none 0 0, .slice none 0 0]
theorem mkR_len (n : Nat) : (mkR n).length = 3 := rfl
theorem text_at (n : Nat) (z : Int) (hz : z = n) (hn : n < 2 ^ 24) (w : World) : Calls Tryd.prog 108 #[.int .i64 z] w fun e w' => e = .returned (.string (txt3 n)) ∧ Mod (fun _ => False) w w' := by
  subst hz; exact text_any n w hn
theorem value_at (n : Nat) (z : Int) (hz : z = n) (hn : n < 2 ^ 24) (w : World) : Calls Tryd.prog 109 #[.string (txt3 n)] w fun e w' => e = .returned (.int .i64 z) ∧ Mod (fun _ => False) w w' := by
  subst hz; exact value_any n w hn
theorem markRules_true (a : Option Addr) (c : Nat) (L : Ps) (w : World) (hr : Rd w a (psV L)) (hA : Apart w 42 3 L) (ha : ∀ b, blk a = some b → ¬ inPs L b) (hl2 : L.length ≤ 1000) :
    Calls Tryd.prog 56 #[.slice a L.length c] w fun e w' => e = .returned (.bool true) ∧ Mod (inPs L) w w' := by
  have hlen := hA.len
  have HR := Lib.hid hr; have HA := Lib.hid hA; have HAA := Lib.hid ha
  clear hr hA ha
  go_enter Tryd.func56, Tryd.ntmps56
  go_wp2_with fail
  go_loopw [3] (fun iv wr => ∃ i : Nat, iv = .int .i64 i ∧ i ≤ L.length ∧ Hid (Mod (inPs L) w wr) ∧ Hid (Fil wr 42 3 mkR L i)) (fun iv _ => L.length - (intOf iv).toNat)
  case atStart => exact ⟨0, rfl, Nat.zero_le _, Lib.hid (Mod.refl _ w), Lib.hid (HA.out.fil0 _)⟩
  case round =>
    obtain ⟨i, rfl, hi, hM, hF⟩ := hrel
    by_cases hlt : i < L.length
    · obtain ⟨pa, pn, hp⟩ : ∃ pa pn, L[i]? = some (pa, pn) := ⟨_, _, List.getElem?_eq_getElem hlt⟩
      have HP := Lib.hid hp
      have hpn := HA.out.sm _ (List.mem_of_getElem? hp)
      obtain ⟨b1, o1, rfl, hc1⟩ := psV_cell (HR.out.mod hM.out HAA.out) hp
      obtain ⟨xs, hx⟩ := hF.out i _ hp
      have HX0 := Lib.hid hx.1
      have HX1 : Hid (xs.length = pn * 3) := Lib.hid hx.1.1
      have HNE : Hid (∀ b, blk pa = some b → b1 ≠ b) := Lib.hid (fun b hb e => HAA.out b1 rfl ⟨_, List.mem_of_getElem? HP.out, by rw [e]; exact hb⟩)
      simp only at hpn hc1
      clear hx hp
      go_wp2_with fail
      have HC1 := Lib.hid hc1
      clear hc1
      generalize wr = wa at *
      go_loopw [4] (fun kv ws => ∃ k : Nat, kv = .int .i64 k ∧ k ≤ pn ∧ Hid (Mod (fun b => blk pa = some b) wa ws) ∧ Hid (Clp ws 42 3 pa pn (rowL mkR (1000 * i) k ++ xs.drop (k * 3)))) (fun kv _ => pn - (intOf kv).toNat)
      case atStart => exact ⟨0, rfl, Nat.zero_le _, Lib.hid (Mod.refl _ wa), Lib.hid (by simpa [rowL] using HX0.out)⟩
      case round =>
        obtain ⟨k, rfl, hk, hM2, hC⟩ := hrel
        have hc1 := hM2.out.cell HC1.out (fun h => HNE.out b1 h rfl)
        by_cases hlk : k < pn
        · obtain ⟨b2, rfl⟩ := hC.out.head.resolve_left (by rintro ⟨_, h⟩; omega)
          have HT := Lib.hid (text_at (1000 * i + k) (1000 * (i : Int) + k) (by omega) (by omega))
          go_wp2_with fail
          refine wp_region_ord (fun W => W.cell? ⟨b1, o1 + i, none⟩ = some (.slice (some ⟨b2, 0, none⟩) pn pn)) [(0, 0), (0, 1), (0, 2), (1, 3), (0, 4), (0, 5), (0, 6), (0, 7), (0, 8), (2, 9), (0, 10), (0, 11), (0, 12), (3, 13)] (by kernel_rfl) (by kernel_rfl) ?_
          go_wp2_with (first
            | (refine ord_pure rfl rfl rfl (fun K hK => ?_); go_big_quiet_op; refine hK _ ?_; clear hK K)
                        | (refine ord_skip rfl rfl ?_; simp only [Act.put, List.setIfInBounds_toArray, List.set_cons_zero, List.set_cons_succ])
                        | (refine ord_held rfl rfl rfl (hc1) (fun K hK => ?_); apply Exists.intro; refine ⟨fun w' hs => ?_, hK _ ?_⟩; (revert hs; dsimp only; (try simp only [and_imp]); intros; go_simp; rfl); clear hK K)
                        | (refine ord_keep rfl rfl (hc1) (fun K hK => ?_))
                        | (refine ord_drop rfl rfl (fun K hK => ?_))
                        | (refine ord_nil ?_))
          refine (HT.out _).mono ?_
          rintro e w6 ⟨rfl, hM6⟩
          have hc6 := hM6.cell hc1 id
          have hC6 := hC.out.mod (((Mod.refl (fun _ => False) wr).drew).trans hM6) (fun _ _ => id)
          have HC6 := Lib.hid hC6
          have HM6 := Lib.hid (hM2.out.step (((Mod.refl (fun _ => False) wr).drew).trans hM6) (fun _ _ h => h.elim))
          refine hK _ _ hc6 ?_; clear hK K hM6 hC6
          obtain ⟨⟨u0, y0⟩, f0⟩ := HC6.out.cellAt (j := k * 3) (by omega)
          obtain ⟨⟨u1, y1⟩, f1⟩ := HC6.out.cellAt (j := k * 3 + 1) (by omega)
          obtain ⟨⟨u2, y2⟩, f2⟩ := HC6.out.cellAt (j := k * 3 + 2) (by omega)
          go_wp2_with (first
            | (refine ord_pure rfl rfl rfl (fun K hK => ?_); go_big_quiet_op; refine hK _ ?_; clear hK K)
                        | (refine ord_skip rfl rfl ?_; simp only [Act.put, List.setIfInBounds_toArray, List.set_cons_zero, List.set_cons_succ])
                        | (refine ord_held rfl rfl rfl (trivial) (fun K hK => ?_); apply Exists.intro; refine ⟨fun w' hs => ?_, hK _ ?_⟩; (revert hs; dsimp only; (try simp only [and_imp]); intros; go_simp; rfl); clear hK K)
                        | (refine ord_keep rfl rfl (trivial) (fun K hK => ?_))
                        | (refine ord_drop rfl rfl (fun K hK => ?_))
                        | (refine ord_nil ?_))
          go_roundw
          case rel =>
            refine ⟨k + 1, by go_num, hlk, Lib.hid (((HM6.out.setCell (p := ⟨b2, k * 3, none⟩) (fun _ => rfl) _).setCell (p := ⟨b2, k * 3 + 1, none⟩) (fun _ => rfl) _).setCell (p := ⟨b2, k * 3 + 2, none⟩) (fun _ => rfl) _), Lib.hid ?_⟩
            exact HC6.out.fill mkR_len HX1.out hlk
          case measure => simp [intOf]; omega
        · obtain rfl : k = pn := by omega
          go_wp2_with fail
          go_roundw
          case rel =>
            have hc := hC.out
            rw [List.drop_of_length_le (by rw [HX1.out]; exact Nat.le_refl _), List.append_nil] at hc
            have hf : Fil wr 42 3 mkR L (i + 1) := hF.out.next HA.out HP.out hM2.out hc
            exact ⟨i + 1, by go_num, hlt, Lib.hid (hM.out.step hM2.out (fun b _ h => ⟨_, List.mem_of_getElem? HP.out, h⟩)), Lib.hid hf⟩
          case measure => simp [intOf]; omega
    · obtain rfl : i = L.length := by omega
      have HM := hM
      have HF := hF
      clear hM hF
      go_wp2_with fail
      have HM0 : Hid (w.heap.size ≤ wr.heap.size) := Lib.hid HM.out.size
      have HRA : Hid (Rd wr a (psV L)) := Lib.hid (HR.out.mod HM.out HAA.out)
      generalize wr = wa at *
      go_loopw [5, 6] (fun mv iv wr => ∃ (i : Nat) (am : Option Addr) (cm : Nat) (M : Ms), mv = .slice am M.length cm ∧ iv = .int .i64 i ∧ i ≤ L.length ∧ Hid (M.length = i) ∧ Hid (Mod (fun _ => False) wa wr) ∧
        Hid (Mine.Own wr 31 1 am M.length cm (msV M)) ∧ Hid (∀ b, blk am = some b → wa.heap.size ≤ b) ∧ Hid (More wa wr mkR L am M)) (fun _ iv _ => L.length - (intOf iv).toNat)
      case atStart => exact ⟨0, none, 0, [], rfl, rfl, Nat.zero_le _, Lib.hid rfl, Lib.hid (Mod.refl _ wa), Lib.hid (Mine.Own.nil _ _ _), Lib.hid (fun b h => by simp at h), Lib.hid (More.nil _ _ _ _ _)⟩
      case round =>
        obtain ⟨i, am, cm, M, rfl, rfl, hi, hMl, hM, hO, hfr, hMo⟩ := hrel
        by_cases hlt : i < L.length
        · obtain ⟨pa, pn, hp⟩ : ∃ pa pn, L[i]? = some (pa, pn) := ⟨_, _, List.getElem?_eq_getElem hlt⟩
          have HP := Lib.hid hp
          have hpn := HA.out.sm _ (List.mem_of_getElem? hp)
          obtain ⟨b1, o1, rfl, hc1⟩ := psV_cell (HRA.out.mod hM.out (fun _ _ => id)) hp
          obtain ⟨xs, hx0, hx1⟩ := HF.out i _ hp
          have HX : Hid (Clp wa 42 3 pa pn (rowL mkR (1000 * i) pn)) := Lib.hid (by rw [← hx1 hlt]; exact hx0)
          simp only at hpn hc1
          clear hx0 hx1 hp
          go_wp2_with fail
          clear hc1
          generalize wr = wb at *
          go_loopw [7, 8] (fun lv kv ws => ∃ k : Nat, kv = .int .i64 k ∧ k ≤ 40 ∧ Hid (Mod (fun _ => False) wb ws) ∧
            ((k = 0 ∧ lv = .slice pa pn pn) ∨ (0 < k ∧ ∃ g c', lv = .slice (some ⟨g, 0, none⟩) (pn + k) c' ∧ Hid (wb.heap.size ≤ g) ∧ Hid (Mine.Own ws 42 3 (some ⟨g, 0, none⟩) (pn + k) c' (rowL mkR (1000 * i) pn ++ rowL mkR (500000 + 1000 * i) k))))) (fun _ kv _ => 40 - (intOf kv).toNat)
          case atStart => exact ⟨0, rfl, Nat.zero_le _, Lib.hid (Mod.refl _ wb), .inl ⟨rfl, rfl⟩⟩
          case round =>
            obtain ⟨k, rfl, hk, hM2, hl⟩ := hrel
            by_cases hlk : k < 40
            · rcases hl with ⟨rfl, rfl⟩ | ⟨hk0, g, c', rfl, hg, hOl⟩
              · have HX3 := Lib.hid (HX.out.mod (hM.out.trans hM2.out) (fun _ _ => id))
                have HT := Lib.hid (text_at (500000 + 1000 * i + 0) (500000 + 1000 * (i : Int)) (by omega) (by omega))
                go_wp2_with fail
                refine (HT.out _).mono ?_
                rintro e w6 ⟨rfl, hM6⟩
                have HX6 := Lib.hid (HX3.out.mod hM6 (fun _ _ => id))
                have HM6 := Lib.hid (hM2.out.trans hM6)
                clear HX3 hM6
                go_wp2_with (first
                  | (at_builtin; refine wpL_append_fullN (us := [_, _, _]) rfl (.tmp 55) (.tmp 64) 31 rfl tiR rfl HX6.out.head HX6.out.rd HX6.out.1 rfl rfl rfl (by omega) (by omega) (by unfold maxLen; omega) ?_; intro g c' w2 hO2 hM3 hg2
                     have HO2 := Lib.hid hO2; have HM3 := Lib.hid hM3; have HG2 := Lib.hid hg2; clear hO2 hM3 hg2))
                go_roundw
                case rel =>
                  refine ⟨1, by go_num, by omega, Lib.hid (HM6.out.trans HM3.out), .inr ⟨by omega, g, c', rfl, Lib.hid (Nat.le_trans HM6.out.size HG2.out), Lib.hid ?_⟩⟩
                  rw [rowL_succ, rowL_zero]
                  exact HO2.out
                case measure => simp [intOf]
              · have HT := Lib.hid (text_at (500000 + 1000 * i + k) (500000 + 1000 * (i : Int) + k) (by omega) (by omega))
                go_wp2_with fail
                refine (HT.out _).mono ?_
                rintro e w6 ⟨rfl, hM6⟩
                have HOl6 := Lib.hid (hOl.out.mod hM6 (fun _ _ => id))
                have HM6 := Lib.hid (hM2.out.trans hM6)
                clear hOl hM6
                go_wp2_with (first
                  | (at_builtin; refine wpL_appendN (us := [_, _, _]) rfl (.tmp 55) (.tmp 64) 31 rfl tiR rfl HOl6.out rfl rfl rfl (by omega) (by unfold maxLen; omega) ?_; intro a2 c2 w2 hO2 hG2 _
                     obtain ⟨g2, rfl⟩ := hO2.atHead (by omega)
                     have HO2 := Lib.hid hO2; have HG2 := Lib.hid hG2; clear hO2 hG2))
                go_roundw
                case rel =>
                  refine ⟨k + 1, by go_num, hlk, Lib.hid (HM6.out.step HG2.out.mod (fun b hb h => by have := hg.out; simp at h; omega)), .inr ⟨by omega, g2, c2, rfl, Lib.hid ?_, Lib.hid ?_⟩⟩
                  · have := hg.out
                    have := HM6.out.size
                    rcases HG2.out.pos with e | ⟨b, e, hb⟩
                    · simp at e; omega
                    · simp at e; omega
                  · rw [rowL_succ, ← List.append_assoc]
                    exact HO2.out
                case measure => simp [intOf]; omega
            · obtain rfl : k = 40 := by omega
              obtain ⟨_, g, c', rfl, hg, hOl⟩ := hl.resolve_left (by rintro ⟨h, _⟩; omega)
              have HLT := Lib.hid hO.out.lt
              have HOM := Lib.hid (hO.out.mod hM2.out (fun _ _ => id))
              have hcl := hOl.out.lt g rfl
              have HCL := Lib.hid hcl
              clear hcl
              have hMl' := hMl.out
              go_wp2_with (first
                | (at_builtin; refine wpL_appendN (us := [_]) rfl (.tmp 66) (.tmp 68) 28 rfl tiRs rfl HOM.out rfl rfl rfl (by omega) (by unfold maxLen; omega) ?_; intro a2 c2 w2 hO2 hG2 _
                   have HO2 := Lib.hid hO2; have HG2 := Lib.hid hG2; clear hO2 hG2))
              go_roundw
              case rel =>
                have hmo : More wa w2 mkR L a2 (M ++ [(g, pn + 40, c')]) := by
                  refine hMo.out.next (p := (pa, pn)) (by rw [hMl']; exact HP.out) hM2.out ?_ hg.out HCL.out hM.out.size HLT.out HG2.out
                  rw [hMl']
                  exact hOl.out.rd
                refine ⟨i + 1, a2, c2, M ++ [(g, pn + 40, c')], by simp [hMl'], by go_num, hlt, Lib.hid (by simp [hMl']), Lib.hid ?_, Lib.hid ?_, Lib.hid ?_, Lib.hid hmo⟩
                · exact (hM.out.trans hM2.out).step HG2.out.mod (fun b hb h => by have := hfr.out b h; omega)
                · have := HO2.out
                  simpa [msV, hMl'] using this
                · intro b hb
                  have h1 := (hM.out.trans hM2.out).size
                  rcases HG2.out.pos with e | ⟨b', e, hb'⟩
                  · exact hfr.out b (by rw [← e]; exact hb)
                  · rw [e] at hb; cases hb; omega
              case measure => simp [intOf]; omega
        · obtain rfl : i = L.length := by omega
          have HB := Lib.hid (HM.out.step hM.out (fun _ _ h => h.elim))
          have HMO := hMo
          have HO := hO
          have HMW := hM
          have HML := hMl
          clear hMo hO hM hfr hMl
          rw [HML.out]
          go_wp2_with fail
          generalize wr = wb at *
          go_loopw [9] (fun iv wr => ∃ i : Nat, iv = .int .i64 i ∧ i ≤ L.length ∧ Hid (Mod (fun _ => False) wb wr)) (fun iv _ => L.length - (intOf iv).toNat)
          case atStart => exact ⟨0, rfl, Nat.zero_le _, Lib.hid (Mod.refl _ wb)⟩
          case round =>
            obtain ⟨i, rfl, hi, hM⟩ := hrel
            by_cases hlt : i < L.length
            · obtain ⟨g, gn, gc, hq⟩ : ∃ g gn gc, M[i]? = some (g, gn, gc) := ⟨_, _, _, List.getElem?_eq_getElem (by rw [HML.out]; exact hlt)⟩
              obtain ⟨⟨pa, pn⟩, hp, hgn, hrd, _, _, _⟩ := HMO.out i _ hq
              simp only at hgn hrd
              have HRD := Lib.hid hrd
              have HP := Lib.hid hp
              have hpn := HA.out.sm _ (List.mem_of_getElem? hp)
              obtain ⟨b1, o1, rfl, hc1⟩ := psV_cell (HRA.out.mod (HMW.out.trans hM.out) (fun _ _ => id)) hp
              obtain ⟨b3, o3, rfl, hc3⟩ := msV_cell (HO.out.rd.mod hM.out (fun _ _ => id)) hq
              obtain ⟨xs, hx0, hx1⟩ := HF.out i _ hp
              have HX : Hid (Clp wb 42 3 pa pn (rowL mkR (1000 * i) pn)) := Lib.hid (by have := hx0.mod HMW.out (fun _ _ => id); rw [← hx1 hlt]; exact this)
              simp only at hpn hc1 hc3
              subst hgn
              have HC1 := Lib.hid hc1
              have HC3 := Lib.hid hc3
              clear hx0 hx1 hp hq hrd
              go_wp2_with fail
              clear hc1 hc3
              generalize wr = wc at *
              go_loopw [11] (fun kv ws => ∃ k : Nat, kv = .int .i64 k ∧ k ≤ pn ∧ Hid (Mod (fun _ => False) wc ws)) (fun kv _ => pn - (intOf kv).toNat)
              case atStart => exact ⟨0, rfl, Nat.zero_le _, Lib.hid (Mod.refl _ wc)⟩
              case round =>
                obtain ⟨k, rfl, hk, hM2⟩ := hrel
                by_cases hlk : k < pn
                · obtain ⟨b2, rfl⟩ := HX.out.head.resolve_left (by rintro ⟨_, h⟩; omega)
                  have hc1 := hM2.out.cell HC1.out id
                  have hc3 := hM2.out.cell HC3.out id
                  have hy := rowCell (t := 0) mkR_len (rest := []) (by rw [List.append_nil]; exact HX.out.rd.mod (hM.out.trans hM2.out) (fun _ _ => id)) hlk (by omega) rfl (u := .string (txt3 (1000 * i + k))) rfl
                  have hz := rowCell (t := 0) mkR_len (HRD.out.mod (hM.out.trans hM2.out) (fun _ _ => id)) hlk (by omega) rfl (u := .string (txt3 (1000 * i + k))) rfl
                  simp only [Nat.add_zero] at hy hz
                  have HV := Lib.hid (value_at (1000 * i + k) (1000 * (i : Int) + k) (by omega) (by omega))
                  have HZ := Lib.hid hz
                  have HC3 := Lib.hid hc3
                  go_wp2_with fail
                  refine (HV.out _).mono ?_
                  rintro e w6 ⟨rfl, hM6⟩
                  have hz6 := hM6.cell HZ.out id
                  have hc6 := hM6.cell HC3.out id
                  have HM6 := Lib.hid (hM2.out.trans hM6)
                  clear hc3 hz hy hM6 hM2
                  go_wp2_with fail
                  refine (HV.out _).mono ?_
                  rintro e w7 ⟨rfl, hM7⟩
                  have hM2 := Lib.hid (HM6.out.trans hM7)
                  clear hz6 hc6 hM7 HM6
                  go_wp2_with fail
                  go_roundw
                  case rel => exact ⟨k + 1, by go_num, hlk, Lib.hid hM2.out⟩
                  case measure => simp [intOf]; omega
                · obtain rfl : k = pn := by omega
                  have HMc := Lib.hid (hM.out.trans hM2.out)
                  have HD3 := Lib.hid (hM2.out.cell HC3.out id)
                  clear HC1 HC3 hM hM2
                  go_wp2_with fail
                  generalize wr = wd at *
                  go_loopw [12] (fun kv ws => ∃ j : Nat, kv = .int .i64 j ∧ j ≤ 40 ∧ Hid (Mod (fun _ => False) wd ws)) (fun kv _ => 40 - (intOf kv).toNat)
                  case atStart => exact ⟨0, rfl, Nat.zero_le _, Lib.hid (Mod.refl _ wd)⟩
                  case round =>
                    obtain ⟨j, rfl, hj, hM3⟩ := hrel
                    by_cases hlj : j < 40
                    · have hc3 := hM3.out.cell HD3.out id
                      have hz := rowCell2 (t := 0) mkR_len (HRD.out.mod (HMc.out.trans hM3.out) (fun _ _ => id)) hlj (by omega) rfl (u := .string (txt3 (500000 + 1000 * i + j))) rfl
                      simp only [Nat.add_zero] at hz
                      have HV := Lib.hid (value_at (500000 + 1000 * i + j) (500000 + 1000 * (i : Int) + j) (by omega) (by omega))
                      go_wp2_with fail
                      refine (HV.out _).mono ?_
                      rintro e w6 ⟨rfl, hM6⟩
                      have hM4 := Lib.hid (hM3.out.trans hM6)
                      clear hM3 hM6
                      have hM3 := hM4
                      go_wp2_with fail
                      go_roundw
                      case rel => exact ⟨j + 1, by go_num, hlj, Lib.hid hM3.out⟩
                      case measure => simp [intOf]; omega
                    · obtain rfl : j = 40 := by omega
                      go_wp2_with fail
                      go_roundw
                      case rel => exact ⟨i + 1, by go_num, hlt, Lib.hid (HMc.out.trans hM3.out)⟩
                      case measure => simp [intOf]; omega
            · obtain rfl : i = L.length := by omega
              go_wp2_with fail
              go_ret
              exact ⟨rfl, HB.out.step hM.out (fun _ _ h => h.elim)⟩
end Go.Proofs.YteecbbnpgmceiaaDoor
