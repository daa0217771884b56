/-
  Which programs may be: the document's answer, walked.
-/
import Derived.Test.YtidgpcjnfkhjoaaDoorMay3
import Derived.Test.YtidgpcjnfkhjoaaDoorRefWord3
namespace Go.Proofs.YtidgpcjnfkhjoaaDoor
open Go Go.RowKit Go.Mine
set_option linter.unusedVariables false
set_option maxHeartbeats 4000000
set_option maxRecDepth 100000

theorem refWordT_any (s : ByteArray) (w : World) (hs : s.size < 2 ^ 30) :
    Calls Tryd.prog 151 #[.string s] w fun e w' => e = .returned (.int .i64 (Word s)) ∧ Mod (fun _ => False) w w' := by
  have HW := Lib.hid (refWord_any s 0 w (Nat.zero_le _) (by omega))
  have hle := wordL_le s 0 (Nat.zero_le _)
  obtain ⟨v, hv⟩ : ∃ v, v = Word s := ⟨_, rfl⟩
  rw [← hv]
  unfold Word at hv
  generalize wordL s 0 = g at *
  obtain ⟨kd, e0⟩ := g
  simp only at *
  by_cases hlt : e0 < s.size
  · rw [if_pos hlt] at hv
    subst hv
    have hb : ((e0 : Int) != (s.size : Int)) = true := by simp; omega
    go_enter Tryd.func151, Tryd.ntmps151
    go_wp2_with (go_at_call 66; refine HW.out.mono ?_; rintro e w' ⟨rfl, rfl⟩)
    go_ret
    exact ⟨rfl, Mod.refl _ _⟩
  · rw [if_neg hlt] at hv
    subst hv
    obtain rfl : e0 = s.size := by omega
    go_enter Tryd.func151, Tryd.ntmps151
    go_wp2_with (go_at_call 66; refine HW.out.mono ?_; rintro e w' ⟨rfl, rfl⟩)
    go_ret
    exact ⟨rfl, Mod.refl _ _⟩
theorem refMayTerm_any (t : Tm) (w : World) (hs : t.text.size < 2 ^ 30) :
    Calls Tryd.prog 152 #[tmV t] w fun e w' => e = .returned (.int .i64 (mayTm t)) ∧ Mod (fun _ => False) w w' := by
  obtain ⟨k, s⟩ := t
  obtain ⟨v, hv⟩ : ∃ v, v = mayTm ⟨k, s⟩ := ⟨_, rfl⟩
  rw [← hv]
  unfold mayTm at hv
  unfold tmV
  simp only at hv hs ⊢
  have HW := Lib.hid (fun w => refWordT_any s w hs)
  have hb1 : (w.alloc (.cells #[.int .i64 k, .string s] 76)).cell? ⟨w.heap.size, 1, none⟩ = some (.string s) := cell_new rfl
  by_cases h3 : k = 3
  · subst h3
    rw [if_pos rfl] at hv
    clear HW hb1
    by_cases hl : 4096 < s.size
    · rw [if_pos hl] at hv
      subst hv
      go_enter Tryd.func152, Tryd.ntmps152
      go_wp2
      go_ret
      exact ⟨rfl, (Mod.refl _ _).alloc _⟩
    · rw [if_neg hl] at hv
      subst hv
      go_enter Tryd.func152, Tryd.ntmps152
      go_wp2
      go_ret
      exact ⟨rfl, (Mod.refl _ _).alloc _⟩
  rw [if_neg h3] at hv
  by_cases h2 : k = 2 ∨ k = 4
  · rw [if_pos h2] at hv
    clear h3 HW hb1
    by_cases he : s = emptyB
    · rw [if_pos he] at hv
      subst hv
      unfold emptyB at he
      subst he
      rcases h2 with rfl | rfl
      all_goals
        go_enter Tryd.func152, Tryd.ntmps152
        go_wp2
        go_ret
        exact ⟨rfl, (Mod.refl _ _).alloc _⟩
    · rw [if_neg he] at hv
      subst hv
      have hE := empty_ne he
      clear he
      rcases h2 with rfl | rfl
      all_goals
        go_enter Tryd.func152, Tryd.ntmps152
        go_wp2
        go_ret
        exact ⟨rfl, (Mod.refl _ _).alloc _⟩
  rw [if_neg h2] at hv
  by_cases h1 : k = 1 ∨ k = 5 ∨ k = 6 ∨ k = 7
  · rw [if_pos h1] at hv
    clear h3 h2
    generalize Word s = wd at *
    by_cases hw : wd = 2
    · subst hw
      by_cases hb : s = blankB
      · rw [if_pos (.inl hb)] at hv
        subst hv
        unfold blankB at hb
        subst hb
        rcases h1 with rfl | rfl | rfl | rfl
        all_goals
          go_enter Tryd.func152, Tryd.ntmps152
          go_wp2_with (first
            | (go_at_call 151; refine (HW.out _).mono ?_; rintro e w' ⟨rfl, hM⟩
               have hx1 := hM.cell hb1 id
               have HM := Lib.hid hM; clear hM))
          go_ret
          exact ⟨rfl, ((Mod.refl _ _).alloc _).trans HM.out⟩
      · rw [if_neg (by rintro (h | h); exact hb h; exact h rfl)] at hv
        have hE := toList_ne (l := [95]) hb
        have hE2 : (s.toList == [95]) = false := by simpa using hE
        clear hb
        by_cases hl : 4096 < s.size
        · rw [if_pos hl] at hv
          subst hv
          rcases h1 with rfl | rfl | rfl | rfl
          all_goals
            go_enter Tryd.func152, Tryd.ntmps152
            go_wp2_with (first
              | (go_at_call 151; refine (HW.out _).mono ?_; rintro e w' ⟨rfl, hM⟩
                 have hx1 := hM.cell hb1 id
                 have HM := Lib.hid hM; clear hM))
            go_ret
            exact ⟨rfl, ((Mod.refl _ _).alloc _).trans HM.out⟩
        · rw [if_neg hl] at hv
          subst hv
          rcases h1 with rfl | rfl | rfl | rfl
          all_goals
            go_enter Tryd.func152, Tryd.ntmps152
            go_wp2_with (first
              | (go_at_call 151; refine (HW.out _).mono ?_; rintro e w' ⟨rfl, hM⟩
                 have hx1 := hM.cell hb1 id
                 have HM := Lib.hid hM; clear hM))
            go_ret
            exact ⟨rfl, ((Mod.refl _ _).alloc _).trans HM.out⟩
    · rw [if_pos (.inr hw)] at hv
      subst hv
      have hwb : ((wd : Int) != 2) = true := by simp; omega
      rcases h1 with rfl | rfl | rfl | rfl
      all_goals
        go_enter Tryd.func152, Tryd.ntmps152
        go_wp2_with (first
          | (go_at_call 151; refine (HW.out _).mono ?_; rintro e w' ⟨rfl, hM⟩
             have hx1 := hM.cell hb1 id
             have HM := Lib.hid hM; clear hM))
        go_ret
        exact ⟨rfl, ((Mod.refl _ _).alloc _).trans HM.out⟩
  · rw [if_neg h1] at hv
    subst hv
    have b3 : (k == 3) = false := by simpa using h3
    have b2 : (k == 2) = false := by simpa using fun h => h2 (.inl h)
    have b4 : (k == 4) = false := by simpa using fun h => h2 (.inr h)
    have b1 : (k == 1) = false := by simpa using fun h => h1 (.inl h)
    have b5 : (k == 5) = false := by simpa using fun h => h1 (.inr (.inl h))
    have b6 : (k == 6) = false := by simpa using fun h => h1 (.inr (.inr (.inl h)))
    have b7 : (k == 7) = false := by simpa using fun h => h1 (.inr (.inr (.inr h)))
    clear h1 h2 h3 HW hb1
    go_enter Tryd.func152, Tryd.ntmps152
    go_wp2
    go_ret
    exact ⟨rfl, (Mod.refl _ _).alloc _⟩
theorem refMayAtom_any (head : Bool) (a : Am) (s : Value) (w : World) (hs : SmallAm a) (ht : TsAt w s a.terms) :
    Calls Tryd.prog 98 #[.agg #[.string a.pred, s], .bool head] w fun e w' => e = .returned (.int .i64 (mayAm head a)) ∧ Mod (fun _ => False) w w' := by
  obtain ⟨p, ts⟩ := a
  obtain ⟨hp, hl, hts⟩ := hs
  obtain ⟨ad, c, rfl, hr⟩ := ht
  simp only at hp hl hts hr ⊢
  obtain ⟨v, hv⟩ : ∃ v, v = mayAm head ⟨p, ts⟩ := ⟨_, rfl⟩
  rw [← hv]
  unfold mayAm at hv
  simp only at hv
  have HW := Lib.hid (fun w => refWordT_any p w hp)
  have HR := Lib.hid hr; clear hr
  have HS := Lib.hid hts; clear hts
  have hb0 : (w.alloc (.cells #[.string p, .slice ad ts.length c] 40)).cell? ⟨w.heap.size, 0, none⟩ = some (.string p) := cell_new rfl
  have hb1 : (w.alloc (.cells #[.string p, .slice ad ts.length c] 40)).cell? ⟨w.heap.size, 1, none⟩ = some (.slice ad ts.length c) := cell_new rfl
  have HM0 := Lib.hid ((Mod.refl (fun _ => False) w).alloc (.cells #[.string p, .slice ad ts.length c] 40))
  generalize Word p = wd at *
  by_cases hw : wd = 1
  · subst hw
    rw [if_neg (by simp)] at hv
    by_cases hl4 : 4096 < p.size
    · rw [if_pos hl4] at hv
      subst hv
      go_enter Tryd.func98, Tryd.ntmps98
      go_wp2_with (first
        | (go_at_call 151; refine (HW.out _).mono ?_; rintro e w1 ⟨rfl, hM⟩
           have hx0 := hM.cell hb0 id
           have hx1 := hM.cell hb1 id
           have HM1 := Lib.hid hM; clear hM))
      go_ret
      exact ⟨rfl, HM0.out.trans HM1.out⟩
    rw [if_neg hl4] at hv
    by_cases h64 : 64 < ts.length
    · rw [if_pos h64] at hv
      subst hv
      go_enter Tryd.func98, Tryd.ntmps98
      go_wp2_with (first
        | (go_at_call 151; refine (HW.out _).mono ?_; rintro e w1 ⟨rfl, hM⟩
           have hx0 := hM.cell hb0 id
           have hx1 := hM.cell hb1 id
           have HM1 := Lib.hid hM; clear hM))
      go_ret
      exact ⟨rfl, HM0.out.trans HM1.out⟩
    · rw [if_neg h64] at hv
      have HV : Hid (mayTs head (ts.drop 0) = v) := hv.symm
      clear hv
      obtain ⟨w0, hw0⟩ : ∃ w0, w0 = w.alloc (.cells #[.string p, .slice ad ts.length c] 40) := ⟨_, rfl⟩
      have HB1 : Hid (w0.cell? ⟨w.heap.size, 1, none⟩ = some (.slice ad ts.length c)) := by rw [hw0]; exact hb1
      have HMW : Hid (∀ w1, Mod (fun _ => False) (w.alloc (.cells #[.string p, .slice ad ts.length c] 40)) w1 → Mod (fun _ => False) w0 w1) := by rw [hw0]; exact fun _ h => h
      rw [← hw0] at HM0
      clear hw0
      go_enter Tryd.func98, Tryd.ntmps98
      go_wp2_with (first
        | (go_at_call 151; refine (HW.out _).mono ?_; rintro e w1 ⟨rfl, hM⟩
           have hx0 := hM.cell hb0 id
           have hx1 := hM.cell hb1 id
           have HM1 := Lib.hid hM; clear hM))
      have HMs := Lib.hid (HMW.out _ HM1.out)
      clear HM1 HMW hb0 hb1 hx0 hx1
      go_loopw [5, 6] (fun hv iv wr => ∃ (k : Nat) (h : Bool), hv = .bool (!h) ∧ iv = .int .i64 k ∧ k ≤ ts.length ∧ Hid (mayTs h (ts.drop k) = v) ∧ Hid (Mod (fun _ => False) w0 wr)) (fun _ iv _ => ts.length - (intOf iv).toNat)
      case atStart => exact ⟨0, head, rfl, rfl, Nat.zero_le _, HV, HMs⟩
      case round =>
        obtain ⟨k, h, rfl, rfl, hk, hV, hM⟩ := hrel
        have hx1 := hM.out.cell HB1.out id
        clear HV HMs
        by_cases hlt : k < ts.length
        · obtain ⟨b, o, rfl, x0, x1⟩ := rd_cell2 (HR.out.mod (HM0.out.trans hM.out) (fun _ _ => id)) hlt
          have HT := Lib.hid (fun w => refMayTerm_any ts[k] w (HS.out _ (List.getElem_mem hlt)))
          have hd := hV.out
          rw [List.drop_eq_getElem_cons hlt] at hd
          unfold tmV at HT
          clear hV
          by_cases hk4 : 4 ≤ ts[k].kind ∧ ts[k].kind ≤ 7
          · rw [mayTs_agg hk4.1 hk4.2] at hd
            generalize mayTm ts[k] = mt at *
            generalize ts[k].kind = tk at *
            generalize ts[k].text = tx at *
            obtain ⟨hk4, hk7⟩ := hk4
            have HD := Lib.hid hd; clear hd
            cases h with
            | false =>
              have HV2 : Hid (80 = v) := by have := HD.out; rwa [if_neg (by simp)] at this
              go_wp2
              go_ret
              exact ⟨ret_i HV2.out, HM0.out.trans hM.out⟩
            | true =>
              have HD2 : Hid ((if mt ≠ 0 then mt else mayTs false (ts.drop (k + 1))) = v) := by have := HD.out; rwa [if_pos rfl] at this
              clear HD
              by_cases hm : mt = 0
              · have HV2 := Lib.hid (by have := HD2.out; rwa [if_neg (by simpa using hm)] at this)
                subst hm
                go_wp2_with (first
                  | (go_at_call 152; refine (HT.out _).mono ?_; rintro e w' ⟨rfl, hM2⟩; have HM2 := Lib.hid hM2; clear hM2))
                go_roundw
                case rel => exact ⟨k + 1, false, rfl, by go_num, hlt, HV2, Lib.hid (hM.out.trans HM2.out)⟩
                case measure => simp [intOf]; omega
              · have hmb : (mt != 0) = true := by simpa using hm
                have HV2 := Lib.hid (by have := HD2.out; rwa [if_pos hm] at this)
                clear hm
                go_wp2_with (first
                  | (go_at_call 152; refine (HT.out _).mono ?_; rintro e w' ⟨rfl, hM2⟩; have HM2 := Lib.hid hM2; clear hM2))
                go_ret
                exact ⟨ret_i HV2.out, HM0.out.trans (hM.out.trans HM2.out)⟩
          · rw [mayTs_other hk4] at hd
            generalize mayTm ts[k] = mt at *
            generalize ts[k].kind = tk at *
            generalize ts[k].text = tx at *
            have HD2 := Lib.hid hd; clear hd
            have hk4 : tk < 4 ∨ 7 < tk := by omega
            rcases hk4 with hk4 | hk4
            all_goals
              by_cases hm : mt = 0
              · have HV2 := Lib.hid (by have := HD2.out; rwa [if_neg (by simpa using hm)] at this)
                subst hm
                go_wp2_with (first
                  | (go_at_call 152; refine (HT.out _).mono ?_; rintro e w' ⟨rfl, hM2⟩; have HM2 := Lib.hid hM2; clear hM2))
                go_roundw
                case rel => exact ⟨k + 1, h, rfl, by go_num, hlt, HV2, Lib.hid (hM.out.trans HM2.out)⟩
                case measure => simp [intOf]; omega
              · have hmb : (mt != 0) = true := by simpa using hm
                have HV2 := Lib.hid (by have := HD2.out; rwa [if_pos hm] at this)
                clear hm
                go_wp2_with (first
                  | (go_at_call 152; refine (HT.out _).mono ?_; rintro e w' ⟨rfl, hM2⟩; have HM2 := Lib.hid hM2; clear hM2))
                go_ret
                exact ⟨ret_i HV2.out, HM0.out.trans (hM.out.trans HM2.out)⟩
        · obtain rfl : k = ts.length := by omega
          have HV2 : Hid (0 = v) := by have := hV.out; rwa [List.drop_length, mayTs] at this
          go_wp2
          go_ret
          exact ⟨ret_i HV2.out, HM0.out.trans hM.out⟩
  · rw [if_pos hw] at hv
    subst hv
    have hwb : ((wd : Int) != 1) = true := by simp; omega
    go_enter Tryd.func98, Tryd.ntmps98
    go_wp2_with (first
      | (go_at_call 151; refine (HW.out _).mono ?_; rintro e w1 ⟨rfl, hM⟩
         have hx0 := hM.cell hb0 id
         have hx1 := hM.cell hb1 id
         have HM1 := Lib.hid hM; clear hM))
    go_ret
    exact ⟨rfl, HM0.out.trans HM1.out⟩
end Go.Proofs.YtidgpcjnfkhjoaaDoor
