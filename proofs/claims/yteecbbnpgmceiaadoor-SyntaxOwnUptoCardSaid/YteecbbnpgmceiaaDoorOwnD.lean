/-
  SyntaxOwn: markLiterals, walked.
-/
import Derived.Test.YteecbbnpgmceiaaDoorOwAB
namespace Go.Proofs.YteecbbnpgmceiaaDoor
open Go Go.RowKit Go.Mine
set_option linter.unusedVariables false
set_option maxHeartbeats 4000000
set_option maxRecDepth 100000

theorem tiLs : TI Tryd.prog 27 40 1 24 := TI.mk' (z := .slice none 0 0) (by kernel_rfl) (by kernel_rfl) rfl (by omega)
def mkL (n : Nat) : List Value := [.int .i64 n, .string ⟨#[]⟩, .slice none 0 0, .int .i64 0, .int .i64 0, .string ⟨#[]⟩, .int .i64 0, .string ⟨#[]⟩]
theorem mkL_len (n : Nat) : (mkL n).length = 8 := rfl
theorem mkL_at (i k : Nat) : mkL (1000 * i + k) = [.int .i64 (1000 * (i : Int) + k), .string ⟨#[]⟩, .slice none 0 0, .int .i64 0, .int .i64 0, .string ⟨#[]⟩, .int .i64 0, .string ⟨#[]⟩] := by
  have : ((1000 * i + k : Nat) : Int) = 1000 * (i : Int) + k := by omega
  unfold mkL; rw [this]
theorem mkL_more (i k : Nat) : mkL (500000 + 1000 * i + k) = [.int .i64 (500000 + 1000 * (i : Int) + k), .string ⟨#[]⟩, .slice none 0 0, .int .i64 0, .int .i64 0, .string ⟨#[]⟩, .int .i64 0, .string ⟨#[]⟩] := by
  have : ((500000 + 1000 * i + k : Nat) : Int) = 500000 + 1000 * (i : Int) + k := by omega
  unfold mkL; rw [this]
theorem markLiterals_true (a : Option Addr) (c : Nat) (L : Ps) (w : World) (hr : Rd w a (psV L)) (hA : Apart w 74 8 L) (ha : ∀ b, blk a = some b → ¬ inPs L b) :
    Calls Tryd.prog 55 #[.slice a L.length c] w fun e w' => e = .returned (.bool true) ∧ Mod (inPs L) w w' := by
  have hlen := hA.len
  have HR := Lib.hid hr; have HA := Lib.hid hA; have HAA := Lib.hid ha
  clear hr hA ha
  go_enter Tryd.func55, Tryd.ntmps55
  go_wp2_with fail
  go_loopw [3] (fun iv wr => ∃ i : Nat, iv = .int .i64 i ∧ i ≤ L.length ∧ Hid (Mod (inPs L) w wr) ∧ Hid (Fil wr 74 8 mkL L i)) (fun iv _ => L.length - (intOf iv).toNat)
  case atStart => exact ⟨0, rfl, Nat.zero_le _, Lib.hid (Mod.refl _ w), Lib.hid (HA.out.fil0 _)⟩
  case round =>
    obtain ⟨i, rfl, hi, hM, hF⟩ := hrel
    by_cases hlt : i < L.length
    · obtain ⟨pa, pn, hp⟩ : ∃ pa pn, L[i]? = some (pa, pn) := ⟨_, _, List.getElem?_eq_getElem hlt⟩
      have HP := Lib.hid hp
      have hpn := HA.out.sm _ (List.mem_of_getElem? hp)
      obtain ⟨b1, o1, rfl, hc1⟩ := psV_cell (HR.out.mod hM.out HAA.out) hp
      obtain ⟨xs, hx⟩ := hF.out i _ hp
      have HX0 := Lib.hid hx.1
      have HX1 : Hid (xs.length = pn * 8) := Lib.hid hx.1.1
      have HNE : Hid (∀ b, blk pa = some b → b1 ≠ b) := Lib.hid (fun b hb e => HAA.out b1 rfl ⟨_, List.mem_of_getElem? HP.out, by rw [e]; exact hb⟩)
      simp only at hpn hc1
      clear hx hp
      go_wp2_with fail
      have HC1 := Lib.hid hc1
      clear hc1
      generalize wr = wa at *
      go_loopw [4] (fun kv ws => ∃ k : Nat, kv = .int .i64 k ∧ k ≤ pn ∧ Hid (Mod (fun b => blk pa = some b) wa ws) ∧ Hid (Clp ws 74 8 pa pn (rowL mkL (1000 * i) k ++ xs.drop (k * 8)))) (fun kv _ => pn - (intOf kv).toNat)
      case atStart => exact ⟨0, rfl, Nat.zero_le _, Lib.hid (Mod.refl _ wa), Lib.hid (by simpa [rowL] using HX0.out)⟩
      case round =>
        obtain ⟨k, rfl, hk, hM2, hC⟩ := hrel
        have hc1 := hM2.out.cell HC1.out (fun h => HNE.out b1 h rfl)
        by_cases hlk : k < pn
        · obtain ⟨b2, rfl⟩ := hC.out.head.resolve_left (by rintro ⟨_, h⟩; omega)
          obtain ⟨⟨u0, y0⟩, f0⟩ := hC.out.cellAt (j := k * 8) (by omega)
          obtain ⟨⟨u1, y1⟩, f1⟩ := hC.out.cellAt (j := k * 8 + 1) (by omega)
          obtain ⟨⟨u2, y2⟩, f2⟩ := hC.out.cellAt (j := k * 8 + 2) (by omega)
          obtain ⟨⟨u3, y3⟩, f3⟩ := hC.out.cellAt (j := k * 8 + 3) (by omega)
          obtain ⟨⟨u4, y4⟩, f4⟩ := hC.out.cellAt (j := k * 8 + 4) (by omega)
          obtain ⟨⟨u5, y5⟩, f5⟩ := hC.out.cellAt (j := k * 8 + 5) (by omega)
          obtain ⟨⟨u6, y6⟩, f6⟩ := hC.out.cellAt (j := k * 8 + 6) (by omega)
          obtain ⟨⟨u7, y7⟩, f7⟩ := hC.out.cellAt (j := k * 8 + 7) (by omega)
          go_wp2_with fail
          go_roundw
          case rel =>
            refine ⟨k + 1, by go_num, hlk, Lib.hid ((((((((hM2.out.setCell (p := ⟨b2, k * 8, none⟩) (fun _ => rfl) _).setCell (p := ⟨b2, k * 8 + 1, none⟩) (fun _ => rfl) _).setCell (p := ⟨b2, k * 8 + 2, none⟩) (fun _ => rfl) _).setCell (p := ⟨b2, k * 8 + 3, none⟩) (fun _ => rfl) _).setCell (p := ⟨b2, k * 8 + 4, none⟩) (fun _ => rfl) _).setCell (p := ⟨b2, k * 8 + 5, none⟩) (fun _ => rfl) _).setCell (p := ⟨b2, k * 8 + 6, none⟩) (fun _ => rfl) _).setCell (p := ⟨b2, k * 8 + 7, none⟩) (fun _ => rfl) _), Lib.hid ?_⟩
            have := hC.out.fill mkL_len HX1.out hlk
            rw [mkL_at i k] at this
            exact this
          case measure => simp [intOf]; omega
        · obtain rfl : k = pn := by omega
          go_wp2_with fail
          go_roundw
          case rel =>
            have hc := hC.out
            rw [List.drop_of_length_le (by rw [HX1.out]; exact Nat.le_refl _), List.append_nil] at hc
            have hf : Fil wr 74 8 mkL L (i + 1) := hF.out.next HA.out HP.out hM2.out hc
            exact ⟨i + 1, by go_num, hlt, Lib.hid (hM.out.step hM2.out (fun b _ h => ⟨_, List.mem_of_getElem? HP.out, h⟩)), Lib.hid hf⟩
          case measure => simp [intOf]; omega
    · obtain rfl : i = L.length := by omega
      have HM := hM
      have HF := hF
      clear hM hF
      go_wp2_with fail
      have HM0 : Hid (w.heap.size ≤ wr.heap.size) := Lib.hid HM.out.size
      have HRA : Hid (Rd wr a (psV L)) := Lib.hid (HR.out.mod HM.out HAA.out)
      generalize wr = wa at *
      go_loopw [5, 6] (fun mv iv wr => ∃ (i : Nat) (am : Option Addr) (cm : Nat) (M : Ms), mv = .slice am M.length cm ∧ iv = .int .i64 i ∧ i ≤ L.length ∧ Hid (M.length = i) ∧ Hid (Mod (fun _ => False) wa wr) ∧
        Hid (Mine.Own wr 40 1 am M.length cm (msV M)) ∧ Hid (∀ b, blk am = some b → wa.heap.size ≤ b) ∧ Hid (More wa wr mkL L am M)) (fun _ iv _ => L.length - (intOf iv).toNat)
      case atStart => exact ⟨0, none, 0, [], rfl, rfl, Nat.zero_le _, Lib.hid rfl, Lib.hid (Mod.refl _ wa), Lib.hid (Mine.Own.nil _ _ _), Lib.hid (fun b h => by simp at h), Lib.hid (More.nil _ _ _ _ _)⟩
      case round =>
        obtain ⟨i, am, cm, M, rfl, rfl, hi, hMl, hM, hO, hfr, hMo⟩ := hrel
        by_cases hlt : i < L.length
        · obtain ⟨pa, pn, hp⟩ : ∃ pa pn, L[i]? = some (pa, pn) := ⟨_, _, List.getElem?_eq_getElem hlt⟩
          have HP := Lib.hid hp
          have hpn := HA.out.sm _ (List.mem_of_getElem? hp)
          obtain ⟨b1, o1, rfl, hc1⟩ := psV_cell (HRA.out.mod hM.out (fun _ _ => id)) hp
          obtain ⟨xs, hx0, hx1⟩ := HF.out i _ hp
          have HX : Hid (Clp wa 74 8 pa pn (rowL mkL (1000 * i) pn)) := Lib.hid (by rw [← hx1 hlt]; exact hx0)
          simp only at hpn hc1
          clear hx0 hx1 hp
          go_wp2_with fail
          clear hc1
          generalize wr = wb at *
          go_loopw [7, 8] (fun lv kv ws => ∃ k : Nat, kv = .int .i64 k ∧ k ≤ 40 ∧ Hid (Mod (fun _ => False) wb ws) ∧
            ((k = 0 ∧ lv = .slice pa pn pn) ∨ (0 < k ∧ ∃ g c', lv = .slice (some ⟨g, 0, none⟩) (pn + k) c' ∧ Hid (wb.heap.size ≤ g) ∧ Hid (Mine.Own ws 74 8 (some ⟨g, 0, none⟩) (pn + k) c' (rowL mkL (1000 * i) pn ++ rowL mkL (500000 + 1000 * i) k))))) (fun _ kv _ => 40 - (intOf kv).toNat)
          case atStart => exact ⟨0, rfl, Nat.zero_le _, Lib.hid (Mod.refl _ wb), .inl ⟨rfl, rfl⟩⟩
          case round =>
            obtain ⟨k, rfl, hk, hM2, hl⟩ := hrel
            by_cases hlk : k < 40
            · rcases hl with ⟨rfl, rfl⟩ | ⟨hk0, g, c', rfl, hg, hOl⟩
              · have HX3 := Lib.hid (HX.out.mod (hM.out.trans hM2.out) (fun _ _ => id))
                go_wp2_with (first
                  | (at_builtin; refine wpL_append_fullN (us := [_, _, _, _, _, _, _, _]) rfl (.tmp 53) (.tmp 60) 40 rfl tiL rfl HX3.out.head HX3.out.rd HX3.out.1 rfl rfl rfl (by omega) (by omega) (by unfold maxLen; omega) ?_; intro g c' w2 hO2 hM3 hg2
                     have HO2 := Lib.hid hO2; have HM3 := Lib.hid hM3; have HG2 := Lib.hid hg2; clear hO2 hM3 hg2))
                go_roundw
                case rel =>
                  refine ⟨1, by go_num, by omega, Lib.hid (hM2.out.trans HM3.out), .inr ⟨by omega, g, c', rfl, Lib.hid (Nat.le_trans hM2.out.size HG2.out), Lib.hid ?_⟩⟩
                  rw [rowL_succ, rowL_zero, mkL_more i 0]
                  exact HO2.out
                case measure => simp [intOf]
              · go_wp2_with (first
                  | (at_builtin; refine wpL_appendN (us := [_, _, _, _, _, _, _, _]) rfl (.tmp 53) (.tmp 60) 40 rfl tiL rfl hOl.out rfl rfl rfl (by omega) (by unfold maxLen; omega) ?_; intro a2 c2 w2 hO2 hG2 _
                     obtain ⟨g2, rfl⟩ := hO2.atHead (by omega)
                     have HO2 := Lib.hid hO2; have HG2 := Lib.hid hG2; clear hO2 hG2))
                go_roundw
                case rel =>
                  refine ⟨k + 1, by go_num, hlk, Lib.hid (hM2.out.step HG2.out.mod (fun b hb h => by have := hg.out; simp at h; omega)), .inr ⟨by omega, g2, c2, rfl, Lib.hid ?_, Lib.hid ?_⟩⟩
                  · have := hg.out
                    have := hM2.out.size
                    rcases HG2.out.pos with e | ⟨b, e, hb⟩
                    · simp at e; omega
                    · simp at e; omega
                  · rw [rowL_succ, mkL_more i k, ← List.append_assoc]
                    exact HO2.out
                case measure => simp [intOf]; omega
            · obtain rfl : k = 40 := by omega
              obtain ⟨_, g, c', rfl, hg, hOl⟩ := hl.resolve_left (by rintro ⟨h, _⟩; omega)
              have HLT := Lib.hid hO.out.lt
              have HOM := Lib.hid (hO.out.mod hM2.out (fun _ _ => id))
              have hcl := hOl.out.lt g rfl
              have HCL := Lib.hid hcl
              clear hcl
              have hMl' := hMl.out
              go_wp2_with (first
                | (at_builtin; refine wpL_appendN (us := [_]) rfl (.tmp 62) (.tmp 64) 27 rfl tiLs rfl HOM.out rfl rfl rfl (by omega) (by unfold maxLen; omega) ?_; intro a2 c2 w2 hO2 hG2 _
                   have HO2 := Lib.hid hO2; have HG2 := Lib.hid hG2; clear hO2 hG2))
              go_roundw
              case rel =>
                have hmo : More wa w2 mkL L a2 (M ++ [(g, pn + 40, c')]) := by
                  refine hMo.out.next (p := (pa, pn)) (by rw [hMl']; exact HP.out) hM2.out ?_ hg.out HCL.out hM.out.size HLT.out HG2.out
                  rw [hMl']
                  exact hOl.out.rd
                refine ⟨i + 1, a2, c2, M ++ [(g, pn + 40, c')], by simp [hMl'], by go_num, hlt, Lib.hid (by simp [hMl']), Lib.hid ?_, Lib.hid ?_, Lib.hid ?_, Lib.hid hmo⟩
                · exact (hM.out.trans hM2.out).step HG2.out.mod (fun b hb h => by have := hfr.out b h; omega)
                · have := HO2.out
                  simpa [msV, hMl'] using this
                · intro b hb
                  have h1 := (hM.out.trans hM2.out).size
                  rcases HG2.out.pos with e | ⟨b', e, hb'⟩
                  · exact hfr.out b (by rw [← e]; exact hb)
                  · rw [e] at hb; cases hb; omega
              case measure => simp [intOf]; omega
        · obtain rfl : i = L.length := by omega
          have HB := Lib.hid (HM.out.step hM.out (fun _ _ h => h.elim))
          have HMO := hMo
          have HO := hO
          have HMW := hM
          have HML := hMl
          clear hMo hO hM hfr hMl
          rw [HML.out]
          go_wp2_with fail
          generalize wr = wb at *
          go_loopw [9] (fun iv wr => ∃ i : Nat, iv = .int .i64 i ∧ i ≤ L.length ∧ Hid (Mod (fun _ => False) wb wr)) (fun iv _ => L.length - (intOf iv).toNat)
          case atStart => exact ⟨0, rfl, Nat.zero_le _, Lib.hid (Mod.refl _ wb)⟩
          case round =>
            obtain ⟨i, rfl, hi, hM⟩ := hrel
            by_cases hlt : i < L.length
            · obtain ⟨g, gn, gc, hq⟩ : ∃ g gn gc, M[i]? = some (g, gn, gc) := ⟨_, _, _, List.getElem?_eq_getElem (by rw [HML.out]; exact hlt)⟩
              obtain ⟨⟨pa, pn⟩, hp, hgn, hrd, _, _, _⟩ := HMO.out i _ hq
              simp only at hgn hrd
              have HRD := Lib.hid hrd
              have HP := Lib.hid hp
              have hpn := HA.out.sm _ (List.mem_of_getElem? hp)
              obtain ⟨b1, o1, rfl, hc1⟩ := psV_cell (HRA.out.mod (HMW.out.trans hM.out) (fun _ _ => id)) hp
              obtain ⟨b3, o3, rfl, hc3⟩ := msV_cell (HO.out.rd.mod hM.out (fun _ _ => id)) hq
              obtain ⟨xs, hx0, hx1⟩ := HF.out i _ hp
              have HX : Hid (Clp wb 74 8 pa pn (rowL mkL (1000 * i) pn)) := Lib.hid (by have := hx0.mod HMW.out (fun _ _ => id); rw [← hx1 hlt]; exact this)
              simp only at hpn hc1 hc3
              subst hgn
              have HC1 := Lib.hid hc1
              have HC3 := Lib.hid hc3
              clear hx0 hx1 hp hq hrd
              go_wp2_with fail
              clear hc1 hc3
              generalize wr = wc at *
              go_loopw [11] (fun kv ws => ∃ k : Nat, kv = .int .i64 k ∧ k ≤ pn ∧ Hid (Mod (fun _ => False) wc ws)) (fun kv _ => pn - (intOf kv).toNat)
              case atStart => exact ⟨0, rfl, Nat.zero_le _, Lib.hid (Mod.refl _ wc)⟩
              case round =>
                obtain ⟨k, rfl, hk, hM2⟩ := hrel
                by_cases hlk : k < pn
                · obtain ⟨b2, rfl⟩ := HX.out.head.resolve_left (by rintro ⟨_, h⟩; omega)
                  have hc1 := hM2.out.cell HC1.out id
                  have hc3 := hM2.out.cell HC3.out id
                  have hy := rowCell (t := 0) mkL_len (rest := []) (by rw [List.append_nil]; exact HX.out.rd.mod (hM.out.trans hM2.out) (fun _ _ => id)) hlk (by omega) rfl (by rw [mkL_at i k]; rfl)
                  have hz := rowCell (t := 0) mkL_len (HRD.out.mod (hM.out.trans hM2.out) (fun _ _ => id)) hlk (by omega) rfl (by rw [mkL_at i k]; rfl)
                  simp only [Nat.add_zero] at hy hz
                  go_wp2_with fail
                  go_roundw
                  case rel => exact ⟨k + 1, by go_num, hlk, Lib.hid hM2.out⟩
                  case measure => simp [intOf]; omega
                · obtain rfl : k = pn := by omega
                  have HMc := Lib.hid (hM.out.trans hM2.out)
                  have HD3 := Lib.hid (hM2.out.cell HC3.out id)
                  clear HC1 HC3 hM hM2
                  go_wp2_with fail
                  generalize wr = wd at *
                  go_loopw [12] (fun kv ws => ∃ j : Nat, kv = .int .i64 j ∧ j ≤ 40 ∧ Hid (Mod (fun _ => False) wd ws)) (fun kv _ => 40 - (intOf kv).toNat)
                  case atStart => exact ⟨0, rfl, Nat.zero_le _, Lib.hid (Mod.refl _ wd)⟩
                  case round =>
                    obtain ⟨j, rfl, hj, hM3⟩ := hrel
                    by_cases hlj : j < 40
                    · have hc3 := hM3.out.cell HD3.out id
                      have hz := rowCell2 (t := 0) mkL_len (HRD.out.mod (HMc.out.trans hM3.out) (fun _ _ => id)) hlj (by omega) rfl (by rw [mkL_more i j]; rfl)
                      simp only [Nat.add_zero] at hz
                      go_wp2_with fail
                      go_roundw
                      case rel => exact ⟨j + 1, by go_num, hlj, Lib.hid hM3.out⟩
                      case measure => simp [intOf]; omega
                    · obtain rfl : j = 40 := by omega
                      go_wp2_with fail
                      go_roundw
                      case rel => exact ⟨i + 1, by go_num, hlt, Lib.hid (HMc.out.trans hM3.out)⟩
                      case measure => simp [intOf]; omega
            · obtain rfl : i = L.length := by omega
              go_wp2_with fail
              go_ret
              exact ⟨rfl, HB.out.step hM.out (fun _ _ h => h.elim)⟩
end Go.Proofs.YteecbbnpgmceiaaDoor
