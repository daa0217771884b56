/-
  Texts: the document's answer, walked.
-/
import Derived.Test.YteecbbnpgmceiaaGreatDoorWrG
import Derived.Test.YteecbbnpgmceiaaGreatDoorRefMayG
import Derived.Test.YteecbbnpgmceiaaGreatDoorRefQuoted
namespace Go.Proofs.YteecbbnpgmceiaaGreatDoor
open Go Go.RowKit Go.Mine
set_option linter.unusedVariables false
set_option maxHeartbeats 4000000
set_option maxRecDepth 100000

theorem ret_str {s t : ByteArray} (h : s = t) : Ending.returned (.string s) = .returned (.string t) := by rw [h]
theorem ba_eq {x y : ByteArray} (h : x.data.toList = y.data.toList) : x = y := ByteArray.ext (Array.ext' h)
theorem ba_app (x y : ByteArray) : (x ++ y).data.toList = x.data.toList ++ y.data.toList := by rw [ByteArray.data_append, Array.toList_append]
theorem ba_self (s : ByteArray) : (⟨s.data.toList.toArray⟩ : ByteArray) = s := ba_eq rfl
/-- a text gathered piece by piece -/
theorem acc_law (base f s : List UInt8) (xs : List (List UInt8)) (B : Nat) (hB : (base ++ sepT f s xs).length ≤ B) : ∃ S : Nat → ByteArray, S 0 = ⟨base.toArray⟩ ∧
    (∀ k (hk : k < xs.length) (X : ByteArray), X = ⟨xs[k].toArray⟩ → (k = 0 → S (k + 1) = S k ++ ⟨f.toArray⟩ ++ X) ∧ (k ≠ 0 → S (k + 1) = S k ++ ⟨s.toArray⟩ ++ X)) ∧
    (∀ k, (S k).size ≤ B) ∧ S xs.length = ⟨(base ++ sepT f s xs).toArray⟩ := by
  refine ⟨fun k => ⟨(spre base f s xs k).toArray⟩, by simp only [spre_zero], ?_, ?_, by simp only [spre_all]⟩
  · rintro k hk X rfl
    have h := spre_succ base f s hk
    constructor
    · rintro rfl
      apply ba_eq
      rw [ba_app, ba_app]
      simpa using h
    · intro h0
      apply ba_eq
      rw [ba_app, ba_app]
      simpa [h0] using h
  · intro k
    show (spre base f s xs k).length ≤ B
    have := spre_le base f s xs k
    omega
theorem refTerm_any (t : Tm) (ok : OkTm t) (w : World) :
    Calls Tryz.prog 144 #[tmV t] w fun e w' => e = .returned (.string ⟨(tmT t).toArray⟩) ∧ Mod (fun _ => False) w w' := by
  obtain ⟨k, s⟩ := t
  have hlo := ok.lo
  have hhi := ok.hi
  have hlen := ok.len
  unfold tmV
  simp only at hlo hhi hlen ⊢
  by_cases h1 : k = 1
  · subst h1
    go_enter Tryz.func144, Tryz.ntmps144
    go_wp2
    go_ret
    exact ⟨ret_str (ba_eq rfl), (Mod.refl _ _).alloc _⟩
  by_cases h2 : k = 2
  · subst h2
    go_enter Tryz.func144, Tryz.ntmps144
    go_wp2
    go_ret
    exact ⟨ret_str (ba_eq rfl), (Mod.refl _ _).alloc _⟩
  by_cases h3 : k = 3
  · subst h3
    have HW := Lib.hid (fun w => refWordT_any s w (by omega))
    have HQ := Lib.hid (fun w => refQuoted_any s w (by omega))
    have hc1 : (w.alloc (.cells #[.int .i64 3, .string s] 100)).cell? ⟨w.heap.size, 1, none⟩ = some (.string s) := cell_new rfl
    by_cases hw : Word s = 1
    · have hT : tmT ⟨3, s⟩ = s.data.toList := by
        unfold tmT
        simp only
        rw [if_neg (by decide), if_neg (by decide), if_pos (by decide), if_pos hw]
      rw [hT]
      rw [hw] at HW
      clear hT hw
      go_enter Tryz.func144, Tryz.ntmps144
      go_wp2_with fail
      refine (HW.out _).mono ?_
      rintro e w1 ⟨rfl, hM1⟩
      have c1 := hM1.cell hc1 id
      have HM1 := Lib.hid hM1; clear hM1
      go_wp2_with fail
      go_ret
      exact ⟨ret_str (ba_eq rfl), ((Mod.refl _ _).alloc _).trans HM1.out⟩
    · have hT : tmT ⟨3, s⟩ = quotedL s.data.toList := by
        unfold tmT
        simp only
        rw [if_neg (by decide), if_neg (by decide), if_pos (by decide), if_neg hw]
      rw [hT]
      generalize Word s = wd at *
      have hwb : ((wd : Int) == 1) = false := by simp; omega
      clear hT hw
      go_enter Tryz.func144, Tryz.ntmps144
      go_wp2_with fail
      refine (HW.out _).mono ?_
      rintro e w1 ⟨rfl, hM1⟩
      have c1 := hM1.cell hc1 id
      have HM1 := Lib.hid hM1; clear hM1
      go_wp2_with fail
      refine (HQ.out _).mono ?_
      rintro e w2 ⟨rfl, hM2⟩
      have HM2 := Lib.hid (HM1.out.trans hM2); clear hM2
      go_wp2_with fail
      go_ret
      exact ⟨rfl, ((Mod.refl _ _).alloc _).trans HM2.out⟩
  by_cases h4 : k = 4
  · subst h4
    go_enter Tryz.func144, Tryz.ntmps144
    go_wp2
    go_ret
    exact ⟨ret_str (ba_eq rfl), (Mod.refl _ _).alloc _⟩
  by_cases h5 : k = 5
  · skip
    obtain rfl : k = 5 := by omega
    go_enter Tryz.func144, Tryz.ntmps144
    go_wp2
    go_ret
    exact ⟨ret_str (ba_eq (by rw [ba_app, ba_app]; rfl)), (Mod.refl _ _).alloc _⟩
  by_cases h6 : k = 6
  · skip
    obtain rfl : k = 6 := by omega
    go_enter Tryz.func144, Tryz.ntmps144
    go_wp2
    go_ret
    exact ⟨ret_str (ba_eq (by rw [ba_app, ba_app]; rfl)), (Mod.refl _ _).alloc _⟩
  · skip
    obtain rfl : k = 7 := by omega
    go_enter Tryz.func144, Tryz.ntmps144
    go_wp2
    go_ret
    exact ⟨ret_str (ba_eq (by rw [ba_app, ba_app]; rfl)), (Mod.refl _ _).alloc _⟩
theorem sepT_length (f s : List UInt8) (xs : List (List UInt8)) (h : xs ≠ []) : sepT f s xs = f ++ sepT [] s xs := sepT_first f s h
theorem refAtom_any (a : Am) (ok : OkAm a) (s : Value) (w : World) (ht : TsAt w s a.terms) :
    Calls Tryz.prog 93 #[.agg #[.string a.pred, s]] w fun e w' => e = .returned (.string ⟨(amT a).toArray⟩) ∧ Mod (fun _ => False) w w' := by
  have hfew := ok.few
  have hpl := ok.plen
  have hal := amT_len ok
  have HALL := Lib.hid ok.all
  obtain ⟨ad, c, rfl, hr⟩ := ht
  have HR := Lib.hid hr; clear hr
  by_cases hn : a.terms.length = 0
  · have hT : amT a = a.pred.data.toList := by
      unfold amT
      rw [if_pos hn, List.eq_nil_of_length_eq_zero hn]
      simp [sepT]
    rw [hT, ba_self]
    rw [hn]
    obtain ⟨pr, ts⟩ := a
    simp only at *
    clear hT hn
    go_enter Tryz.func93, Tryz.ntmps93
    go_wp2_with fail
    go_ret
    exact ⟨rfl, (Mod.refl _ _).alloc _⟩
  · have hT : amT a = (a.pred.data.toList ++ [40]) ++ sepT [] [44, 32] (a.terms.map tmT) ++ [41] := by
      unfold amT
      rw [if_neg hn, sepT_first [40] _ (by intro h; apply hn; simpa using congrArg List.length h)]
      simp only [List.append_assoc]
    obtain ⟨S, h0, hS, hsz, hend⟩ := acc_law (a.pred.data.toList ++ [40]) [] [44, 32] (a.terms.map tmT) 1100000 (by rw [hT, List.length_append] at hal; omega)
    have HEnd : Hid ((⟨(amT a).toArray⟩ : ByteArray) = S a.terms.length ++ ⟨#[41]⟩) := by
      unfold Hid
      rw [List.length_map] at hend
      rw [hend, hT]
      apply ba_eq
      rw [ba_app]
    have HS : Hid (∀ k (hk : k < a.terms.length) (X : ByteArray), X = ⟨(tmT a.terms[k]).toArray⟩ → (k = 0 → S (k + 1) = S k ++ X) ∧ (k ≠ 0 → S (k + 1) = S k ++ ⟨#[44, 32]⟩ ++ X)) := by
      intro k hk X hX
      obtain ⟨h1, h2⟩ := hS k (by simpa using hk) X (by rw [hX]; simp)
      refine ⟨fun h => ?_, h2⟩
      rw [h1 h]
      apply ba_eq
      simp only [ba_app, List.append_nil]
    have HZ : Hid (S 0 = a.pred ++ ⟨#[40]⟩) := by
      unfold Hid
      rw [h0]
      apply ba_eq
      rw [ba_app]
    have HSZ := Lib.hid hsz
    have hsn := hsz a.terms.length
    clear hT h0 hS hsz hend hal
    generalize amT a = out at *
    obtain ⟨pr, ts⟩ := a
    simp only at *
    have hn0 : 0 < ts.length := by omega
    have hc1 : (w.alloc (.cells #[.string pr, .slice ad ts.length c] 43)).cell? ⟨w.heap.size, 1, none⟩ = some (.slice ad ts.length c) := cell_new rfl
    have hm0 : Mod (fun _ => False) w (w.alloc (.cells #[.string pr, .slice ad ts.length c] 43)) := (Mod.refl _ w).alloc _
    have hnb : ((ts.length : Int) == 0) = false := by rw [beq_eq_false_iff_ne]; omega
    clear hn
    go_enter Tryz.func93, Tryz.ntmps93
    go_wp2_with fail
    obtain ⟨w0, hw0⟩ : ∃ w0, w0 = w.alloc (.cells #[.string pr, .slice ad ts.length c] 43) := ⟨_, rfl⟩
    rw [← hw0] at hc1 hm0 ⊢
    clear hw0
    have HC1 := Lib.hid hc1; have HM0 := Lib.hid hm0
    clear hc1 hm0
    go_loopw [3, 4] (fun sv iv wr => ∃ (k : Nat), sv = .string (S k) ∧ iv = .int .i64 k ∧ k ≤ ts.length ∧ Hid (Mod (fun _ => False) w0 wr)) (fun _ iv _ => ts.length - (intOf iv).toNat)
    case atStart => exact ⟨0, by rw [HZ.out], rfl, Nat.zero_le _, Lib.hid (Mod.refl _ w0)⟩
    case round =>
      obtain ⟨k, rfl, rfl, hk, hM⟩ := hrel
      have c1 := hM.out.cell HC1.out id
      by_cases hlt : k < ts.length
      · obtain ⟨bb, o, rfl, x0, x1⟩ := rd_cell2 (HR.out.mod (HM0.out.trans hM.out) (fun _ _ => id)) hlt
        have HT := Lib.hid (fun w' (m : Mod (fun _ => False) w w') => refTerm_any ts[k] (HALL.out _ (List.getElem_mem hlt)) w')
        obtain ⟨X, hX⟩ : ∃ X : ByteArray, X = ⟨(tmT ts[k]).toArray⟩ := ⟨_, rfl⟩
        obtain ⟨hS1, hS2⟩ := HS.out k hlt X hX
        rw [← hX] at HT
        have hs1 := HSZ.out k
        have hs2 := HSZ.out (k + 1)
        unfold tmV at HT
        clear hX
        generalize ts[k] = t at *
        obtain ⟨tk, tx⟩ := t
        simp only at *
        by_cases hk0 : k = 0
        · subst hk0
          have e := hS1 rfl
          have hX2 : X.size ≤ 1100000 := by
            have := congrArg ByteArray.size e
            rw [ByteArray.size_append] at this
            omega
          have HE := Lib.hid e
          clear hS1 hS2 e hs2
          rw [show ((0 : Nat) : Int) = 0 from rfl]
          simp only [Nat.zero_mul, Nat.add_zero] at x0 x1
          go_wp2_with fail
          refine (HT.out _ (HM0.out.trans hM.out)).mono ?_
          rintro e w2 ⟨rfl, hM2⟩
          have HM2 := Lib.hid hM2; clear hM2
          go_wp2_with fail
          go_roundw
          case rel => exact ⟨0 + 1, by rw [HE.out], rfl, hlt, Lib.hid (hM.out.trans HM2.out)⟩
          case measure => simp [intOf]; omega
        · have e := hS2 hk0
          have hX2 : X.size ≤ 1100000 := by
            have := congrArg ByteArray.size e
            rw [ByteArray.size_append] at this
            omega
          have HE := Lib.hid e
          have hkp : 0 < k := by omega
          clear hS1 hS2 e hs2 hk0
          go_wp2_with fail
          refine (HT.out _ (HM0.out.trans hM.out)).mono ?_
          rintro e w2 ⟨rfl, hM2⟩
          have HM2 := Lib.hid hM2; clear hM2
          go_wp2_with fail
          go_roundw
          case rel => exact ⟨k + 1, by rw [HE.out], by go_num, hlt, Lib.hid (hM.out.trans HM2.out)⟩
          case measure => simp [intOf]; omega
      · obtain rfl : k = ts.length := by omega
        go_wp2_with fail
        go_ret
        exact ⟨ret_str HEnd.out.symm, HM0.out.trans hM.out⟩
end Go.Proofs.YteecbbnpgmceiaaGreatDoor
