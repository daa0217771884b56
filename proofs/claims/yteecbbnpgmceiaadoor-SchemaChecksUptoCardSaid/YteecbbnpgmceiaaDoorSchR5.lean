/-
  The document's Check, walked.
-/
import Derived.Test.YteecbbnpgmceiaaDoorSchR2
import Derived.Test.YteecbbnpgmceiaaDoorSchR4
import Derived.Test.YteecbbnpgmceiaaDoorSch6
import Derived.Test.YteecbbnpgmceiaaDoorRefMayG
namespace Go.Proofs.YteecbbnpgmceiaaDoor
open Go Go.RowKit Go.Mine
set_option linter.unusedVariables false
set_option maxHeartbeats 4000000
set_option maxRecDepth 100000

theorem arP_length (L : List Pd) : (arP L).length = L.length := by unfold arP; rw [List.length_map]
theorem xRule {w W : World} {b o : Nat} {xs : List (Rm × Value × Value)} (h : Rd w (some ⟨b, o, none⟩) (rmsC xs)) (m : Mod (fun _ => False) w W) {i : Nat} {r : Rm} {s v : Value} (hi : xs[i]? = some (r, s, v)) :
    W.cell? ⟨b, o + i * 3, none⟩ = some (.string r.head.pred) ∧ W.cell? ⟨b, o + i * 3 + 1, none⟩ = some s ∧ W.cell? ⟨b, o + i * 3 + 2, none⟩ = some v := by
  obtain ⟨b', o', e, q0, q1, q2⟩ := rd_cellR (h.mod m (fun _ _ => id)) hi
  cases e
  exact ⟨q0, q1, q2⟩
theorem refCheck_any (rs : List Rm) (v0 : Value) (w : World) (hr : RsAt w v0 rs) (hn : rs.length < 2 ^ 30) (hs : ∀ r ∈ rs, SchOk r) :
    Calls Tryd.prog 21 #[.agg #[v0]] w fun e w' => e = .returned (.tuple #[.int .i64 (checkL rs).1, .int .i64 (checkL rs).2]) ∧ Mod (fun _ => False) w w' := by
  obtain ⟨ad, c, xv, rfl, hx, hrx, hxt⟩ := hr
  have HX := Lib.hid hx; have HR := Lib.hid hrx; have HXT := Lib.hid hxt; have HS := Lib.hid hs
  have hb1 := heap_alloc_new w (.cells #[.slice ad rs.length c] 33)
  have hm1 : Mod (fun _ => False) w (w.alloc (.cells #[.slice ad rs.length c] 33)) := (Mod.refl _ w).alloc _
  have c1 := cell_at (j := 0) hb1 rfl
  clear hx hrx hxt hs
  by_cases hlong : 1024 < rs.length
  · have e : checkL rs = (0, 81) := by unfold checkL; rw [if_pos hlong]
    rw [e]
    have e1 : (decide ((1024 : Int) < rs.length)) = true := decide_eq_true (by omega)
    go_enter Tryd.func21, Tryd.ntmps21
    go_wp2
    exact bodyPost_ret (results_tmp2 rfl _ _ _) rfl ⟨rfl, hm1⟩
  · have e : checkL rs = checkGo 0 [] rs := by unfold checkL; rw [if_neg hlong]
    rw [e]
    have e1 : (decide ((1024 : Int) < rs.length)) = false := decide_eq_false (by omega)
    go_enter Tryd.func21, Tryd.ntmps21
    go_wp2_with fail
    generalize w.alloc (.cells #[.slice ad rs.length c] 33) = w2 at *
    have HM2 := Lib.hid hm1; have HB1 := Lib.hid hb1
    clear c1 e e1 hm1 hb1
    go_loopw [4, 5] (fun lv iv wr => ∃ (k : Nat) (a : Option Addr) (ca : Nat) (L : List Pd), lv = .slice a L.length ca ∧ iv = .int .i64 k ∧ k ≤ rs.length ∧ L.length ≤ 512 ∧ Hid (Mine.Own wr 231 3 a L.length ca (pdsC L)) ∧ Hid (checkGo 0 [] rs = checkGo k (arP L) (rs.drop k)) ∧ Hid (Grow w2 none wr a)) (fun _ iv _ => rs.length - (intOf iv).toNat)
    case atStart => exact ⟨0, none, 0, [], rfl, rfl, Nat.zero_le _, by simp, Mine.Own.nil _ _ _, rfl, Lib.hid (Grow.refl _ _)⟩
    case round =>
      obtain ⟨k, a, ca, L, rfl, rfl, hk, hL, hA, hC, hG⟩ := hrel
      have hM : Hid (Mod (fun _ => False) w wr) := Lib.hid (HM2.out.trans hG.out.mod0)
      have c1 := cell_at (j := 0) (hG.out.mod0.at HB1.out id) rfl
      by_cases hlt : k < rs.length
      · obtain ⟨⟨sk, bk⟩, hx, hmem⟩ := xs_get HX.out hlt
        obtain ⟨bb, o, rfl, x0, x1, x2⟩ := rd_cellR (HR.out.mod hM.out (fun _ _ => id)) hx
        have hok := HS.out _ (List.getElem_mem hlt)
        have HT0 := Lib.hid (HXT.out _ hmem)
        have hd : rs.drop k = rs[k] :: rs.drop (k + 1) := List.drop_eq_getElem_cons hlt
        have hc := hC.out
        rw [hd, checkGo] at hc
        have hxx := hx
        clear hx hmem hd
        generalize rs[k] = t at *
        obtain ⟨⟨pr, hts⟩, ls⟩ := t
        obtain ⟨sa, sc, hsk⟩ : ∃ sa sc, sk = .slice sa hts.length sc := by obtain ⟨sa, sc, e, _⟩ := HT0.out.1; exact ⟨sa, sc, e⟩
        obtain ⟨ba, bc, hbk⟩ : ∃ sa sc, bk = .slice sa ls.length sc := by obtain ⟨sa, sc, _, e, _⟩ := HT0.out.2; exact ⟨sa, sc, e⟩
        subst hsk hbk
        simp only at x0 HT0
        have HRX := Lib.hid (fun (W : World) (m : Mod (fun _ => False) w W) => xRule HR.out m hxx)
        have HMY := Lib.hid (RefMayRule_any ⟨⟨pr, hts⟩, ls⟩ _ _ wr hok.sm (HT0.out.1.mod0 hM.out) (HT0.out.2.mod0 hM.out))
        have HOK := Lib.hid hok; have HCC := Lib.hid hc
        have HC0 := Lib.hid (And.intro c1 (And.intro x0 (And.intro x1 x2)))
        unfold rmV at HMY
        simp only at HMY
        generalize mayRm ⟨⟨pr, hts⟩, ls⟩ = my at *
        clear hok hc hC
        go_wp2_with fail
        clear x0 x1 x2 c1
        refine HMY.out.mono ?_
        rintro e w4 ⟨rfl, hM4⟩
        have HM4 := Lib.hid hM4
        have c1 := hM4.cell HC0.out.1 id
        have x0 := hM4.cell HC0.out.2.1 id
        have x1 := hM4.cell HC0.out.2.2.1 id
        have x2 := hM4.cell HC0.out.2.2.2 id
        have HC4 := Lib.hid (And.intro c1 (And.intro x0 (And.intro x1 x2)))
        clear hM4 HMY HC0
        by_cases h0 : my = 0
        · subst h0
          have hcc := HCC.out
          rw [if_neg (by simp), notedL_eq] at hcc
          have HCC := Lib.hid hcc
          have hbl : ls.length ≤ 2 ^ 20 := HOK.out.b0
          have HAR := Lib.hid (noted_any a ca L ⟨⟨pr, hts⟩, ls⟩ _ _ w4 (hA.out.mod HM4.out (fun _ _ => id)) (by omega) (HT0.out.1.mod0 (hM.out.trans HM4.out)) (HT0.out.2.mod0 (hM.out.trans HM4.out)) hbl)
          unfold rmV at HAR
          simp only at HAR
          have hll := noteAll_le L (usesL ⟨⟨pr, hts⟩, ls⟩)
          have hlu := usesL_le ⟨⟨pr, hts⟩, ls⟩
          have hal := arP_length (noteAll L (usesL ⟨⟨pr, hts⟩, ls⟩))
          simp only at hlu
          clear hcc
          generalize noteAll L (usesL ⟨⟨pr, hts⟩, ls⟩) = L' at *
          generalize fitAll L (usesL ⟨⟨pr, hts⟩, ls⟩) = fb at *
          have HAL := Lib.hid hal
          have hll2 : L'.length ≤ 2 ^ 21 := by omega
          clear hll hlu hal
          go_wp2_with fail
          clear x0 x1 x2 c1
          refine HAR.out.mono ?_
          rintro e w5 ⟨a5, c5, rfl, hA5, hG5⟩
          have hGG : Grow w2 none w5 a5 := (hG.out.post (HM4.out.mono fun _ _ f => f.elim)).trans hG5
          have hM5 : Mod (fun _ => False) w w5 := HM2.out.trans hGG.mod0
          have HG5 := Lib.hid hGG; have HM5 := Lib.hid hM5; have HA5 := Lib.hid hA5
          have c1 := cell_at (j := 0) (hGG.mod0.at HB1.out id) rfl
          have x0 := HRX.out _ hM5 |>.1; have x1 := HRX.out _ hM5 |>.2.1; have x2 := HRX.out _ hM5 |>.2.2
          have HSF := Lib.hid (refSafe_any ⟨⟨pr, hts⟩, ls⟩ _ _ w5 (HT0.out.1.mod0 HM5.out) (HT0.out.2.mod0 HM5.out) HOK.out.h0 HOK.out.b0 HOK.out.t0)
          unfold rmV at HSF
          simp only at HSF
          clear hGG hM5 hA5 hG5 HAR HC4
          cases fb
          · have hcc := HCC.out
            simp only [Bool.false_eq_true, if_false] at hcc
            have HC2 := Lib.hid hcc
            clear hcc
            go_wp2_with fail
            exact bodyPost_ret (results_tmp2 rfl _ _ _) rfl ⟨by rw [HC2.out]; rfl, HM5.out⟩
          · have hcc := HCC.out
            simp only [if_true] at hcc
            rw [HAL.out] at hcc
            have HC2 := Lib.hid hcc
            clear hcc
            by_cases h5 : 512 < L'.length
            · have hcc := HC2.out
              rw [if_pos h5] at hcc
              have HC3 := Lib.hid hcc
              have e5 : (decide ((512 : Int) < L'.length)) = true := decide_eq_true (by omega)
              clear hcc
              go_wp2_with fail
              exact bodyPost_ret (results_tmp2 rfl _ _ _) rfl ⟨by rw [HC3.out]; rfl, HM5.out⟩
            · have hcc := HC2.out
              rw [if_neg h5] at hcc
              have HC3 := Lib.hid hcc
              have e5 : (decide ((512 : Int) < L'.length)) = false := decide_eq_false (by omega)
              clear hcc HC2
              go_wp2_with fail
              refine HSF.out.mono ?_
              rintro e w6 ⟨rfl, hM6⟩
              have HM6 := Lib.hid hM6
              clear hM6 HSF x0 x1 x2 c1
              generalize safeB ⟨⟨pr, hts⟩, ls⟩ = y at *
              obtain ⟨y1, y2, y3, y4⟩ := y
              unfold okBr brV
              simp only at HC3 ⊢
              by_cases h6 : y1 = 0
              · subst h6
                have hcc := HC3.out
                rw [if_neg (by simp)] at hcc
                have HC4 := Lib.hid hcc
                clear hcc
                go_wp2_with fail
                go_roundw
                case rel => exact ⟨k + 1, a5, c5, L', rfl, by go_num, hlt, by omega, Lib.hid ((HA5.out.mod HM6.out (fun _ _ => id)).mod ((Mod.refl (fun _ => False) w6).alloc _) (fun _ _ => id)), HC4, Lib.hid ((HG5.out.post (HM6.out.mono fun _ _ f => f.elim)).post (((Mod.refl (fun _ => False) w6).alloc _).mono fun _ _ f => f.elim))⟩
                case measure => simp [intOf]; omega
              · have hcc := HC3.out
                rw [if_pos h6] at hcc
                have HC4 := Lib.hid hcc
                have e6 : decide (y1 = 0) = false := decide_eq_false h6
                rw [e6]
                clear hcc
                go_wp2_with fail
                exact bodyPost_ret (results_tmp2 rfl _ _ _) rfl ⟨by rw [HC4.out]; rfl, (HM5.out.trans HM6.out).alloc _⟩
        · have hcc := HCC.out
          rw [if_pos h0] at hcc
          have HC2 := Lib.hid hcc
          have e0 : (my == 0) = false := by simpa using h0
          have e1 : (my != 0) = true := by simpa using h0
          clear hcc
          go_wp2_with fail
          exact bodyPost_ret (results_tmp2 rfl _ _ _) rfl ⟨by rw [HC2.out]; rfl, hM.out.trans HM4.out⟩
      · obtain rfl : k = rs.length := by omega
        have hc := hC.out
        rw [List.drop_length, checkGo] at hc
        have HC2 := Lib.hid hc
        clear hc
        go_wp2_with fail
        exact bodyPost_ret (results_tmp2 rfl _ _ _) rfl ⟨by rw [HC2.out]; rfl, hM.out⟩
end Go.Proofs.YteecbbnpgmceiaaDoor
