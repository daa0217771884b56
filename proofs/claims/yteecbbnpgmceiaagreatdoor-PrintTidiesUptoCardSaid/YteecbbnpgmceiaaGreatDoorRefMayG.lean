/-
  Which programs may be: the document's answer, walked.
-/
import Derived.Test.YteecbbnpgmceiaaGreatDoorMayG
import Derived.Test.YteecbbnpgmceiaaGreatDoorRfWG
namespace Go.Proofs.YteecbbnpgmceiaaGreatDoor
open Go Go.RowKit Go.Mine
set_option linter.unusedVariables false
set_option maxHeartbeats 4000000
set_option maxRecDepth 100000

theorem refWordT_any (s : ByteArray) (w : World) (hs : s.size < 2 ^ 30) :
    Calls Tryz.prog 169 #[.string s] w fun e w' => e = .returned (.int .i64 (Word s)) ∧ Mod (fun _ => False) w w' := by
  have HW := Lib.hid (refWord_any s 0 w (Nat.zero_le _) (by omega))
  have hle := wordL_le s 0 (Nat.zero_le _)
  obtain ⟨v, hv⟩ : ∃ v, v = Word s := ⟨_, rfl⟩
  rw [← hv]
  unfold Word at hv
  generalize wordL s 0 = g at *
  obtain ⟨kd, e0⟩ := g
  simp only at *
  by_cases hlt : e0 < s.size
  · rw [if_pos hlt] at hv
    subst hv
    have hb : ((e0 : Int) != (s.size : Int)) = true := by simp; omega
    go_enter Tryz.func169, Tryz.ntmps169
    go_wp2_with (go_at_call 198; refine HW.out.mono ?_; rintro e w' ⟨rfl, rfl⟩)
    go_ret
    exact ⟨rfl, Mod.refl _ _⟩
  · rw [if_neg hlt] at hv
    subst hv
    obtain rfl : e0 = s.size := by omega
    go_enter Tryz.func169, Tryz.ntmps169
    go_wp2_with (go_at_call 198; refine HW.out.mono ?_; rintro e w' ⟨rfl, rfl⟩)
    go_ret
    exact ⟨rfl, Mod.refl _ _⟩
theorem refMayTerm_any (t : Tm) (w : World) (hs : t.text.size < 2 ^ 30) :
    Calls Tryz.prog 170 #[tmV t] w fun e w' => e = .returned (.int .i64 (mayTm t)) ∧ Mod (fun _ => False) w w' := by
  obtain ⟨k, s⟩ := t
  obtain ⟨v, hv⟩ : ∃ v, v = mayTm ⟨k, s⟩ := ⟨_, rfl⟩
  rw [← hv]
  unfold mayTm at hv
  unfold tmV
  simp only at hv hs ⊢
  have HW := Lib.hid (fun w => refWordT_any s w hs)
  have hb1 : (w.alloc (.cells #[.int .i64 k, .string s] 100)).cell? ⟨w.heap.size, 1, none⟩ = some (.string s) := cell_new rfl
  by_cases h3 : k = 3
  · subst h3
    rw [if_pos rfl] at hv
    clear HW hb1
    by_cases hl : 4096 < s.size
    · rw [if_pos hl] at hv
      subst hv
      go_enter Tryz.func170, Tryz.ntmps170
      go_wp2
      go_ret
      exact ⟨rfl, (Mod.refl _ _).alloc _⟩
    · rw [if_neg hl] at hv
      subst hv
      go_enter Tryz.func170, Tryz.ntmps170
      go_wp2
      go_ret
      exact ⟨rfl, (Mod.refl _ _).alloc _⟩
  rw [if_neg h3] at hv
  by_cases h2 : k = 2 ∨ k = 4
  · rw [if_pos h2] at hv
    clear h3 HW hb1
    by_cases he : s = emptyB
    · rw [if_pos he] at hv
      subst hv
      unfold emptyB at he
      subst he
      rcases h2 with rfl | rfl
      all_goals
        go_enter Tryz.func170, Tryz.ntmps170
        go_wp2
        go_ret
        exact ⟨rfl, (Mod.refl _ _).alloc _⟩
    · rw [if_neg he] at hv
      subst hv
      have hE := empty_ne he
      clear he
      rcases h2 with rfl | rfl
      all_goals
        go_enter Tryz.func170, Tryz.ntmps170
        go_wp2
        go_ret
        exact ⟨rfl, (Mod.refl _ _).alloc _⟩
  rw [if_neg h2] at hv
  by_cases h1 : k = 1 ∨ k = 5 ∨ k = 6 ∨ k = 7
  · rw [if_pos h1] at hv
    clear h3 h2
    generalize Word s = wd at *
    by_cases hw : wd = 2
    · subst hw
      by_cases hb : s = blankB
      · rw [if_pos (.inl hb)] at hv
        subst hv
        unfold blankB at hb
        subst hb
        rcases h1 with rfl | rfl | rfl | rfl
        all_goals
          go_enter Tryz.func170, Tryz.ntmps170
          go_wp2_with (first
            | (go_at_call 169; refine (HW.out _).mono ?_; rintro e w' ⟨rfl, hM⟩
               have hx1 := hM.cell hb1 id
               have HM := Lib.hid hM; clear hM))
          go_ret
          exact ⟨rfl, ((Mod.refl _ _).alloc _).trans HM.out⟩
      · rw [if_neg (by rintro (h | h); exact hb h; exact h rfl)] at hv
        have hE := toList_ne (l := [95]) hb
        have hE2 : (s.toList == [95]) = false := by simpa using hE
        clear hb
        by_cases hl : 4096 < s.size
        · rw [if_pos hl] at hv
          subst hv
          rcases h1 with rfl | rfl | rfl | rfl
          all_goals
            go_enter Tryz.func170, Tryz.ntmps170
            go_wp2_with (first
              | (go_at_call 169; refine (HW.out _).mono ?_; rintro e w' ⟨rfl, hM⟩
                 have hx1 := hM.cell hb1 id
                 have HM := Lib.hid hM; clear hM))
            go_ret
            exact ⟨rfl, ((Mod.refl _ _).alloc _).trans HM.out⟩
        · rw [if_neg hl] at hv
          subst hv
          rcases h1 with rfl | rfl | rfl | rfl
          all_goals
            go_enter Tryz.func170, Tryz.ntmps170
            go_wp2_with (first
              | (go_at_call 169; refine (HW.out _).mono ?_; rintro e w' ⟨rfl, hM⟩
                 have hx1 := hM.cell hb1 id
                 have HM := Lib.hid hM; clear hM))
            go_ret
            exact ⟨rfl, ((Mod.refl _ _).alloc _).trans HM.out⟩
    · rw [if_pos (.inr hw)] at hv
      subst hv
      have hwb : ((wd : Int) != 2) = true := by simp; omega
      rcases h1 with rfl | rfl | rfl | rfl
      all_goals
        go_enter Tryz.func170, Tryz.ntmps170
        go_wp2_with (first
          | (go_at_call 169; refine (HW.out _).mono ?_; rintro e w' ⟨rfl, hM⟩
             have hx1 := hM.cell hb1 id
             have HM := Lib.hid hM; clear hM))
        go_ret
        exact ⟨rfl, ((Mod.refl _ _).alloc _).trans HM.out⟩
  · rw [if_neg h1] at hv
    subst hv
    have b3 : (k == 3) = false := by simpa using h3
    have b2 : (k == 2) = false := by simpa using fun h => h2 (.inl h)
    have b4 : (k == 4) = false := by simpa using fun h => h2 (.inr h)
    have b1 : (k == 1) = false := by simpa using fun h => h1 (.inl h)
    have b5 : (k == 5) = false := by simpa using fun h => h1 (.inr (.inl h))
    have b6 : (k == 6) = false := by simpa using fun h => h1 (.inr (.inr (.inl h)))
    have b7 : (k == 7) = false := by simpa using fun h => h1 (.inr (.inr (.inr h)))
    clear h1 h2 h3 HW hb1
    go_enter Tryz.func170, Tryz.ntmps170
    go_wp2
    go_ret
    exact ⟨rfl, (Mod.refl _ _).alloc _⟩
theorem refMayAtom_any (head : Bool) (a : Am) (s : Value) (w : World) (hs : SmallAm a) (ht : TsAt w s a.terms) :
    Calls Tryz.prog 141 #[.agg #[.string a.pred, s], .bool head] w fun e w' => e = .returned (.int .i64 (mayAm head a)) ∧ Mod (fun _ => False) w w' := by
  obtain ⟨p, ts⟩ := a
  obtain ⟨hp, hl, hts⟩ := hs
  obtain ⟨ad, c, rfl, hr⟩ := ht
  simp only at hp hl hts hr ⊢
  obtain ⟨v, hv⟩ : ∃ v, v = mayAm head ⟨p, ts⟩ := ⟨_, rfl⟩
  rw [← hv]
  unfold mayAm at hv
  simp only at hv
  have HW := Lib.hid (fun w => refWordT_any p w hp)
  have HR := Lib.hid hr; clear hr
  have HS := Lib.hid hts; clear hts
  have hb0 : (w.alloc (.cells #[.string p, .slice ad ts.length c] 43)).cell? ⟨w.heap.size, 0, none⟩ = some (.string p) := cell_new rfl
  have hb1 : (w.alloc (.cells #[.string p, .slice ad ts.length c] 43)).cell? ⟨w.heap.size, 1, none⟩ = some (.slice ad ts.length c) := cell_new rfl
  have HM0 := Lib.hid ((Mod.refl (fun _ => False) w).alloc (.cells #[.string p, .slice ad ts.length c] 43))
  generalize Word p = wd at *
  by_cases hw : wd = 1
  · subst hw
    rw [if_neg (by simp)] at hv
    by_cases hl4 : 4096 < p.size
    · rw [if_pos hl4] at hv
      subst hv
      go_enter Tryz.func141, Tryz.ntmps141
      go_wp2_with (first
        | (go_at_call 169; refine (HW.out _).mono ?_; rintro e w1 ⟨rfl, hM⟩
           have hx0 := hM.cell hb0 id
           have hx1 := hM.cell hb1 id
           have HM1 := Lib.hid hM; clear hM))
      go_ret
      exact ⟨rfl, HM0.out.trans HM1.out⟩
    rw [if_neg hl4] at hv
    by_cases h64 : 64 < ts.length
    · rw [if_pos h64] at hv
      subst hv
      go_enter Tryz.func141, Tryz.ntmps141
      go_wp2_with (first
        | (go_at_call 169; refine (HW.out _).mono ?_; rintro e w1 ⟨rfl, hM⟩
           have hx0 := hM.cell hb0 id
           have hx1 := hM.cell hb1 id
           have HM1 := Lib.hid hM; clear hM))
      go_ret
      exact ⟨rfl, HM0.out.trans HM1.out⟩
    · rw [if_neg h64] at hv
      have HV : Hid (mayTs head (ts.drop 0) = v) := hv.symm
      clear hv
      obtain ⟨w0, hw0⟩ : ∃ w0, w0 = w.alloc (.cells #[.string p, .slice ad ts.length c] 43) := ⟨_, rfl⟩
      have HB1 : Hid (w0.cell? ⟨w.heap.size, 1, none⟩ = some (.slice ad ts.length c)) := by rw [hw0]; exact hb1
      have HMW : Hid (∀ w1, Mod (fun _ => False) (w.alloc (.cells #[.string p, .slice ad ts.length c] 43)) w1 → Mod (fun _ => False) w0 w1) := by rw [hw0]; exact fun _ h => h
      rw [← hw0] at HM0
      clear hw0
      go_enter Tryz.func141, Tryz.ntmps141
      go_wp2_with (first
        | (go_at_call 169; refine (HW.out _).mono ?_; rintro e w1 ⟨rfl, hM⟩
           have hx0 := hM.cell hb0 id
           have hx1 := hM.cell hb1 id
           have HM1 := Lib.hid hM; clear hM))
      have HMs := Lib.hid (HMW.out _ HM1.out)
      clear HM1 HMW hb0 hb1 hx0 hx1
      go_loopw [5, 6] (fun hv iv wr => ∃ (k : Nat) (h : Bool), hv = .bool (!h) ∧ iv = .int .i64 k ∧ k ≤ ts.length ∧ Hid (mayTs h (ts.drop k) = v) ∧ Hid (Mod (fun _ => False) w0 wr)) (fun _ iv _ => ts.length - (intOf iv).toNat)
      case atStart => exact ⟨0, head, rfl, rfl, Nat.zero_le _, HV, HMs⟩
      case round =>
        obtain ⟨k, h, rfl, rfl, hk, hV, hM⟩ := hrel
        have hx1 := hM.out.cell HB1.out id
        clear HV HMs
        by_cases hlt : k < ts.length
        · obtain ⟨b, o, rfl, x0, x1⟩ := rd_cell2 (HR.out.mod (HM0.out.trans hM.out) (fun _ _ => id)) hlt
          have HT := Lib.hid (fun w => refMayTerm_any ts[k] w (HS.out _ (List.getElem_mem hlt)))
          have hd := hV.out
          rw [List.drop_eq_getElem_cons hlt] at hd
          unfold tmV at HT
          clear hV
          by_cases hk4 : 4 ≤ ts[k].kind ∧ ts[k].kind ≤ 7
          · rw [mayTs_agg hk4.1 hk4.2] at hd
            generalize mayTm ts[k] = mt at *
            generalize ts[k].kind = tk at *
            generalize ts[k].text = tx at *
            obtain ⟨hk4, hk7⟩ := hk4
            have HD := Lib.hid hd; clear hd
            cases h with
            | false =>
              have HV2 : Hid (80 = v) := by have := HD.out; rwa [if_neg (by simp)] at this
              go_wp2
              go_ret
              exact ⟨ret_i HV2.out, HM0.out.trans hM.out⟩
            | true =>
              have HD2 : Hid ((if mt ≠ 0 then mt else mayTs false (ts.drop (k + 1))) = v) := by have := HD.out; rwa [if_pos rfl] at this
              clear HD
              by_cases hm : mt = 0
              · have HV2 := Lib.hid (by have := HD2.out; rwa [if_neg (by simpa using hm)] at this)
                subst hm
                go_wp2_with (first
                  | (go_at_call 170; refine (HT.out _).mono ?_; rintro e w' ⟨rfl, hM2⟩; have HM2 := Lib.hid hM2; clear hM2))
                go_roundw
                case rel => exact ⟨k + 1, false, rfl, by go_num, hlt, HV2, Lib.hid (hM.out.trans HM2.out)⟩
                case measure => simp [intOf]; omega
              · have hmb : (mt != 0) = true := by simpa using hm
                have HV2 := Lib.hid (by have := HD2.out; rwa [if_pos hm] at this)
                clear hm
                go_wp2_with (first
                  | (go_at_call 170; refine (HT.out _).mono ?_; rintro e w' ⟨rfl, hM2⟩; have HM2 := Lib.hid hM2; clear hM2))
                go_ret
                exact ⟨ret_i HV2.out, HM0.out.trans (hM.out.trans HM2.out)⟩
          · rw [mayTs_other hk4] at hd
            generalize mayTm ts[k] = mt at *
            generalize ts[k].kind = tk at *
            generalize ts[k].text = tx at *
            have HD2 := Lib.hid hd; clear hd
            have hk4 : tk < 4 ∨ 7 < tk := by omega
            rcases hk4 with hk4 | hk4
            all_goals
              by_cases hm : mt = 0
              · have HV2 := Lib.hid (by have := HD2.out; rwa [if_neg (by simpa using hm)] at this)
                subst hm
                go_wp2_with (first
                  | (go_at_call 170; refine (HT.out _).mono ?_; rintro e w' ⟨rfl, hM2⟩; have HM2 := Lib.hid hM2; clear hM2))
                go_roundw
                case rel => exact ⟨k + 1, h, rfl, by go_num, hlt, HV2, Lib.hid (hM.out.trans HM2.out)⟩
                case measure => simp [intOf]; omega
              · have hmb : (mt != 0) = true := by simpa using hm
                have HV2 := Lib.hid (by have := HD2.out; rwa [if_pos hm] at this)
                clear hm
                go_wp2_with (first
                  | (go_at_call 170; refine (HT.out _).mono ?_; rintro e w' ⟨rfl, hM2⟩; have HM2 := Lib.hid hM2; clear hM2))
                go_ret
                exact ⟨ret_i HV2.out, HM0.out.trans (hM.out.trans HM2.out)⟩
        · obtain rfl : k = ts.length := by omega
          have HV2 : Hid (0 = v) := by have := hV.out; rwa [List.drop_length, mayTs] at this
          go_wp2
          go_ret
          exact ⟨ret_i HV2.out, HM0.out.trans hM.out⟩
  · rw [if_pos hw] at hv
    subst hv
    have hwb : ((wd : Int) != 1) = true := by simp; omega
    go_enter Tryz.func141, Tryz.ntmps141
    go_wp2_with (first
      | (go_at_call 169; refine (HW.out _).mono ?_; rintro e w1 ⟨rfl, hM⟩
         have hx0 := hM.cell hb0 id
         have hx1 := hM.cell hb1 id
         have HM1 := Lib.hid hM; clear hM))
    go_ret
    exact ⟨rfl, HM0.out.trans HM1.out⟩
end Go.Proofs.YteecbbnpgmceiaaGreatDoor
/-
  Literals, rules, programs that may be: the document's answer, walked.
-/
namespace Go.Proofs.YteecbbnpgmceiaaGreatDoor
open Go Go.RowKit Go.Mine
set_option linter.unusedVariables false
set_option maxHeartbeats 4000000
set_option maxRecDepth 100000

theorem tm_neql (a b : Int) (s t : ByteArray) (w : World) : (binOp .neq 100 (.agg #[.int .i64 a, .string s]) (.agg #[.int .i64 b, .string t])).run Tryz.prog w = .ok (.bool (!(a == b && s.toList == t.toList))) w := by
  have u3 := Tryz.underlying3
  have hS : Tryz.prog.underlying 100 = some (.struct (Tryz.prog.fieldsOf 100)) := by kernel_rfl
  have hp : Tryz.prog.stoodInHeld 100 = false := by kernel_rfl
  rw [run_neq_struct, show (10000 : Nat) = 9999 + 1 from rfl, run_equalIn_agg w 9999 100 _ _ hS hp]
  simp only [Program.fieldsOf, Tryz.underlying100]
  go_simp
  by_cases h1 : a = b <;> by_cases h2 : s.toList = t.toList <;> simp [h1, h2]
theorem tm_nzero (a : Int) (s : ByteArray) (w : World) : (binOp .neq 100 (.agg #[.int .i64 a, .string s]) (.agg #[.int .i64 0, .string ⟨#[]⟩])).run Tryz.prog w = .ok (.bool (!zeroT a s)) w := by
  rw [tm_neql]
  unfold zeroT
  have : (⟨#[]⟩ : ByteArray).toList = [] := by rw [ByteArray.toList_eq]
  rw [this]
theorem refMayLit_any (l : Lm) (s : Value) (w : World) (hs : SmallLm l) (ht : TsAt w s l.atom.terms) :
    Calls Tryz.prog 142 #[lmV l s] w fun e w' => e = .returned (.int .i64 (mayLm l)) ∧ Mod (fun _ => False) w w' := by
  obtain ⟨k, ⟨p, ts⟩, op, ⟨lk, lt⟩, ⟨rk, rt⟩⟩ := l
  obtain ⟨ha, hls, hrs⟩ := hs
  unfold lmV
  simp only at ha hls hrs ht ⊢
  have hM0 := fun c0 => (Mod.refl (fun _ => False) w).alloc (.cells c0 102)
  have HA0 := fun c0 => refMayAtom_any false ⟨p, ts⟩ s _ ha (ht.mod0 (hM0 c0))
  have HL := Lib.hid (fun w => refMayTerm_any ⟨lk, lt⟩ w hls)
  have HR := Lib.hid (fun w => refMayTerm_any ⟨rk, rt⟩ w hrs)
  obtain ⟨ad, c, rfl, hr⟩ := ht
  clear hr
  have HA := Lib.hid (HA0 #[.int .i64 k, .string p, .slice ad ts.length c, .int .i64 op, .int .i64 lk, .string lt, .int .i64 rk, .string rt])
  have HM0 := Lib.hid (hM0 #[.int .i64 k, .string p, .slice ad ts.length c, .int .i64 op, .int .i64 lk, .string lt, .int .i64 rk, .string rt])
  clear hM0 HA0
  have hb6 : (w.alloc (.cells #[.int .i64 k, .string p, .slice ad ts.length c, .int .i64 op, .int .i64 lk, .string lt, .int .i64 rk, .string rt] 102)).cell? ⟨w.heap.size, 6, none⟩ = some (.int .i64 rk) := cell_new rfl
  have hb7 : (w.alloc (.cells #[.int .i64 k, .string p, .slice ad ts.length c, .int .i64 op, .int .i64 lk, .string lt, .int .i64 rk, .string rt] 102)).cell? ⟨w.heap.size, 7, none⟩ = some (.string rt) := cell_new rfl
  obtain ⟨v, hv⟩ : ∃ v, v = mayLm ⟨k, ⟨p, ts⟩, op, ⟨lk, lt⟩, ⟨rk, rt⟩⟩ := ⟨_, rfl⟩
  rw [← hv]
  unfold mayLm bareL noneL at hv
  simp only at hv HA
  have tz := tm_nzero lk lt
  have tzr := tm_nzero rk rt
  have z1 : zeroT lk lt = true ↔ lk = 0 ∧ lt = emptyB := zeroT_iff
  have z2 : zeroT rk rt = true ↔ rk = 0 ∧ rt = emptyB := zeroT_iff
  simp only [← z1, ← z2] at hv
  clear z1 z2
  generalize zeroT lk lt = zl at *
  generalize zeroT rk rt = zr at *
  unfold tmV at HL HR
  simp only at HL HR
  generalize mayTm ⟨lk, lt⟩ = ml at *
  generalize mayTm ⟨rk, rt⟩ = mr at *
  by_cases hk : k = 1 ∨ k = 2
  · by_cases hb : op = 0 ∧ zl = true ∧ zr = true
    · rw [if_pos ⟨hk, hb⟩] at hv
      obtain ⟨rfl, rfl, rfl⟩ := hb
      rw [← hv] at HA
      clear hv
      rcases hk with rfl | rfl
      all_goals
        go_enter Tryz.func142, Tryz.ntmps142
        go_wp2_with (first
          | (go_at_call 141; refine HA.out.mono ?_; rintro e w' ⟨rfl, hM2⟩; have HM2 := Lib.hid hM2; clear hM2))
        go_ret
        exact ⟨rfl, HM0.out.trans HM2.out⟩
    · rw [if_neg (fun h => hb h.2), if_pos (by left; omega)] at hv
      subst hv
      clear HA HL HR hb6 hb7
      by_cases ho : op = 0
      · subst ho
        cases zl with
        | false =>
          clear hb
          rcases hk with rfl | rfl
          all_goals
            go_enter Tryz.func142, Tryz.ntmps142
            go_wp2_with fail
            go_ret
            exact ⟨rfl, HM0.out⟩
        | true =>
          obtain rfl : zr = false := by
            cases zr with
            | false => rfl
            | true => exact absurd ⟨rfl, rfl, rfl⟩ hb
          clear hb
          rcases hk with rfl | rfl
          all_goals
            go_enter Tryz.func142, Tryz.ntmps142
            go_wp2_with fail
            go_ret
            exact ⟨rfl, HM0.out⟩
      · have hob : (op != 0) = true := by simpa using ho
        clear hb
        rcases hk with rfl | rfl
        all_goals
          go_enter Tryz.func142, Tryz.ntmps142
          go_wp2_with fail
          go_ret
          exact ⟨rfl, HM0.out⟩
  · rw [if_neg (fun h => hk h.1)] at hv
    have b1 : (k == 1) = false := by simpa using fun h => hk (.inl h)
    have b2 : (k == 2) = false := by simpa using fun h => hk (.inr h)
    clear hk HA tz tzr
    by_cases hk3 : k = 3
    · subst hk3
      clear b1 b2
      by_cases hp : p = emptyB
      · by_cases hl : ts = []
        · subst hl
          unfold emptyB at hp
          subst hp
          simp only [List.length_nil] at *
          by_cases ho1 : op < 1
          · rw [if_pos (.inr (.inr (.inl ho1)))] at hv
            subst hv
            go_enter Tryz.func142, Tryz.ntmps142
            go_wp2_with fail
            go_ret
            exact ⟨rfl, HM0.out⟩
          by_cases ho4 : 4 < op
          · rw [if_pos (.inr (.inr (.inr ho4)))] at hv
            subst hv
            go_enter Tryz.func142, Tryz.ntmps142
            go_wp2_with fail
            go_ret
            exact ⟨rfl, HM0.out⟩
          rw [if_neg (by rintro (h | h | h | h); exact h rfl; exact h ⟨rfl, trivial⟩; exact ho1 h; exact ho4 h)] at hv
          have ho1' : 1 ≤ op := by omega
          have ho4' : op ≤ 4 := by omega
          clear ho1 ho4
          by_cases hl4 : 4 ≤ lk
          · rw [if_pos hl4] at hv
            subst hv
            go_enter Tryz.func142, Tryz.ntmps142
            go_wp2_with fail
            go_ret
            exact ⟨rfl, HM0.out⟩
          rw [if_neg hl4] at hv
          by_cases hml : ml = 0
          · subst hml
            rw [if_neg (by simp)] at hv
            by_cases hr4 : 4 ≤ rk
            · rw [if_pos hr4] at hv
              subst hv
              go_enter Tryz.func142, Tryz.ntmps142
              go_wp2_with (first
                | (go_at_call 170; refine (HL.out _).mono ?_; rintro e w1 ⟨rfl, hM2⟩
                   have y6 := hM2.cell hb6 id
                   have y7 := hM2.cell hb7 id
                   have HM2 := Lib.hid hM2; clear hM2))
              go_ret
              exact ⟨rfl, HM0.out.trans HM2.out⟩
            · rw [if_neg hr4] at hv
              subst hv
              go_enter Tryz.func142, Tryz.ntmps142
              go_wp2_with fail
              refine (HL.out _).mono ?_
              rintro e w1 ⟨rfl, hM2⟩
              have y6 := hM2.cell hb6 id
              have y7 := hM2.cell hb7 id
              have HM2 := Lib.hid hM2; clear hM2
              go_wp2_with fail
              refine (HR.out _).mono ?_
              rintro e w2 ⟨rfl, hM3⟩
              have HM3 := Lib.hid hM3; clear hM3
              go_wp2_with fail
              go_ret
              exact ⟨rfl, HM0.out.trans (HM2.out.trans HM3.out)⟩
          · rw [if_pos hml] at hv
            subst hv
            have hmb : (v != 0) = true := by simpa using hml
            clear hml
            go_enter Tryz.func142, Tryz.ntmps142
            go_wp2_with (first
              | (go_at_call 170; refine (HL.out _).mono ?_; rintro e w1 ⟨rfl, hM2⟩
                 have y6 := hM2.cell hb6 id
                 have y7 := hM2.cell hb7 id
                 have HM2 := Lib.hid hM2; clear hM2))
            go_ret
            exact ⟨rfl, HM0.out.trans HM2.out⟩
        · rw [if_pos (.inr (.inl (fun h => hl h.2)))] at hv
          subst hv
          unfold emptyB at hp
          subst hp
          have hl0 : 0 < ts.length := List.length_pos_iff.2 hl
          clear hl
          go_enter Tryz.func142, Tryz.ntmps142
          go_wp2_with fail
          go_ret
          exact ⟨rfl, HM0.out⟩
      · rw [if_pos (.inr (.inl (fun h => hp h.1)))] at hv
        subst hv
        have hE := empty_ne hp
        clear hp
        go_enter Tryz.func142, Tryz.ntmps142
        go_wp2_with fail
        go_ret
        exact ⟨rfl, HM0.out⟩
    · rw [if_pos (.inl hk3)] at hv
      subst hv
      have b3 : (k != 3) = true := by simpa using hk3
      clear hk3
      go_enter Tryz.func142, Tryz.ntmps142
      go_wp2_with fail
      go_ret
      exact ⟨rfl, HM0.out⟩
theorem RefMayRule_any (r : Rm) (s b : Value) (w : World) (hs : SmallRm r) (ht : TsAt w s r.head.terms) (hb : LsAt w b r.body) :
    Calls Tryz.prog 90 #[rmV r s b] w fun e w' => e = .returned (.int .i64 (mayRm r)) ∧ Mod (fun _ => False) w w' := by
  obtain ⟨h, ls⟩ := r
  obtain ⟨hsh, hsl, hss⟩ := hs
  unfold rmV
  simp only at ht hb hsh hsl hss ⊢
  have hM0 := (Mod.refl (fun _ => False) w).alloc (.cells #[.string h.pred, s, b] 46)
  have HA := Lib.hid (refMayAtom_any true h s _ hsh (ht.mod0 hM0))
  obtain ⟨v, hv⟩ : ∃ v, v = mayRm ⟨h, ls⟩ := ⟨_, rfl⟩
  rw [← hv]
  unfold mayRm at hv
  simp only at hv
  generalize mayAm true h = x at *
  obtain ⟨ad, c, rfl, hr⟩ := ht
  clear hr
  obtain ⟨bd, bc, xs, rfl, hx, hrx, hxt⟩ := hb
  have HR := Lib.hid hrx; have HX := Lib.hid hx; have HXT := Lib.hid hxt
  have HSS := Lib.hid hss
  have HM0 := Lib.hid hM0
  clear hrx hx hxt hss hM0
  have hcc : (w.alloc (.cells #[.string h.pred, .slice ad h.terms.length c, .slice bd ls.length bc] 46)).cell? ⟨w.heap.size, 2, none⟩ = some (.slice bd ls.length bc) := cell_new rfl
  by_cases hx0 : x = 0
  · subst hx0
    rw [if_neg (by simp)] at hv
    by_cases h64 : 64 < ls.length
    · rw [if_pos h64] at hv
      subst hv
      go_enter Tryz.func90, Tryz.ntmps90
      go_wp2_with (first
        | (go_at_call 141; refine (HA.out).mono ?_; rintro e w1 ⟨rfl, hM⟩
           have hc2 := hM.cell hcc id
           have HM1 := Lib.hid hM; clear hM))
      go_ret
      exact ⟨rfl, HM0.out.trans HM1.out⟩
    · rw [if_neg h64] at hv
      have HV : Hid (mayLs (ls.drop 0) = v) := hv.symm
      clear hv
      obtain ⟨w0, hw0⟩ : ∃ w0, w0 = w.alloc (.cells #[.string h.pred, .slice ad h.terms.length c, .slice bd ls.length bc] 46) := ⟨_, rfl⟩
      have HB1 : Hid (w0.cell? ⟨w.heap.size, 2, none⟩ = some (.slice bd ls.length bc)) := by rw [hw0]; exact hcc
      have HMW : Hid (∀ w1, Mod (fun _ => False) (w.alloc (.cells #[.string h.pred, .slice ad h.terms.length c, .slice bd ls.length bc] 46)) w1 → Mod (fun _ => False) w0 w1) := by rw [hw0]; exact fun _ h => h
      rw [← hw0] at HM0
      clear hw0
      go_enter Tryz.func90, Tryz.ntmps90
      go_wp2_with (first
        | (go_at_call 141; refine (HA.out).mono ?_; rintro e w1 ⟨rfl, hM⟩
           have hc2 := hM.cell hcc id
           have HM1 := Lib.hid hM; clear hM))
      have HMs := Lib.hid (HMW.out _ HM1.out)
      clear hcc HA HM1 HMW hc2
      go_loopw [4] (fun iv wr => ∃ (k : Nat), iv = .int .i64 k ∧ k ≤ ls.length ∧ Hid (mayLs (ls.drop k) = v) ∧ Hid (Mod (fun _ => False) w0 wr)) (fun iv _ => ls.length - (intOf iv).toNat)
      case atStart => exact ⟨0, rfl, Nat.zero_le _, HV, HMs⟩
      case round =>
        obtain ⟨k, rfl, hk, hV, hM⟩ := hrel
        have hx2 := hM.out.cell HB1.out id
        clear HV HMs
        by_cases hlt : k < ls.length
        · obtain ⟨sk, hx, hmem⟩ := xs_get HX.out hlt
          obtain ⟨b, o, rfl, x0, x1, x2, x3, x4, x5, x6, x7⟩ := rd_cell8 (HR.out.mod (HM0.out.trans hM.out) (fun _ _ => id)) hx
          have HT := Lib.hid (fun w' (m : Mod (fun _ => False) w w') => refMayLit_any ls[k] sk w' (HSS.out _ (List.getElem_mem hlt)) ((HXT.out _ hmem).mod0 m))
          obtain ⟨sa, sc, hsk, _⟩ := HXT.out _ hmem
          simp only at hsk
          subst hsk
          have hd := hV.out
          rw [List.drop_eq_getElem_cons hlt, mayLs] at hd
          have HD := Lib.hid hd
          unfold lmV at HT
          clear hV hx hmem hd
          simp only at x2 HT
          generalize mayLm ls[k] = mt at *
          generalize ls[k] = l at *
          obtain ⟨lk, ⟨lp, lts⟩, lo, ⟨ll1, ll2⟩, ⟨lr1, lr2⟩⟩ := l
          simp only at *
          by_cases hm : mt = 0
          · have HV2 : Hid (mayLs (ls.drop (k + 1)) = v) := by
              have := HD.out; rwa [if_neg (by simpa using hm)] at this
            subst hm
            go_wp2_with (first
              | (go_at_call 142; refine (HT.out _ (HM0.out.trans hM.out)).mono ?_; rintro e w' ⟨rfl, hM2⟩; have HM2 := Lib.hid hM2; clear hM2))
            go_roundw
            case rel => exact ⟨k + 1, by go_num, hlt, HV2, Lib.hid (hM.out.trans HM2.out)⟩
            case measure => simp [intOf]; omega
          · have HV2 : Hid (mt = v) := by have := HD.out; rwa [if_pos hm] at this
            have hmb : (mt != 0) = true := by simpa using hm
            clear hm
            go_wp2_with (first
              | (go_at_call 142; refine (HT.out _ (HM0.out.trans hM.out)).mono ?_; rintro e w' ⟨rfl, hM2⟩; have HM2 := Lib.hid hM2; clear hM2))
            go_ret
            exact ⟨ret_i HV2.out, HM0.out.trans (hM.out.trans HM2.out)⟩
        · obtain rfl : k = ls.length := by omega
          have HV2 : Hid (0 = v) := by have := hV.out; rwa [List.drop_length, mayLs] at this
          go_wp2
          go_ret
          exact ⟨ret_i HV2.out, HM0.out.trans hM.out⟩
  · rw [if_pos hx0] at hv
    subst hv
    have hxb : (v != 0) = true := by simpa using hx0
    clear hx0
    go_enter Tryz.func90, Tryz.ntmps90
    go_wp2_with (first
      | (go_at_call 141; refine (HA.out).mono ?_; rintro e w1 ⟨rfl, hM⟩
         have hc2 := hM.cell hcc id
         have HM1 := Lib.hid hM; clear hM))
    go_ret
    exact ⟨rfl, HM0.out.trans HM1.out⟩
theorem RefMay_any (rs : List Rm) (v0 : Value) (w : World) (hs : SmallPm rs) (hp : RsAt w v0 rs) :
    Calls Tryz.prog 43 #[.agg #[v0]] w fun e w' => e = .returned (.int .i64 (mayPm rs)) ∧ Mod (fun _ => False) w w' := by
  obtain ⟨hsl, hss⟩ := hs
  obtain ⟨v, hv⟩ : ∃ v, v = mayPm rs := ⟨_, rfl⟩
  rw [← hv]
  unfold mayPm at hv
  obtain ⟨ad, c, xs, rfl, hx, hrx, hxt⟩ := hp
  have HR := Lib.hid hrx; have HX := Lib.hid hx; have HXT := Lib.hid hxt
  have HSS := Lib.hid hss
  clear hrx hx hxt hss
  by_cases h64 : 1024 < rs.length
  · rw [if_pos h64] at hv
    subst hv
    go_enter Tryz.func43, Tryz.ntmps43
    go_wp2_with fail
    go_ret
    exact ⟨rfl, (Mod.refl _ w).alloc _⟩
  · rw [if_neg h64] at hv
    have HV : Hid (mayRs (rs.drop 0) = v) := hv.symm
    clear hv
    go_enter Tryz.func43, Tryz.ntmps43
    go_wp2_with fail
    have hcc : (w.alloc (.cells #[.slice ad rs.length c] 24)).cell? ⟨w.heap.size, 0, none⟩ = some (.slice ad rs.length c) := cell_new rfl
    have hm0 : Mod (fun _ => False) w (w.alloc (.cells #[.slice ad rs.length c] 24)) := (Mod.refl _ w).alloc _
    obtain ⟨w0, hw0⟩ : ∃ w0, w0 = w.alloc (.cells #[.slice ad rs.length c] 24) := ⟨_, rfl⟩
    rw [← hw0] at hcc hm0 ⊢
    clear hw0
    have HM0 := Lib.hid hm0
    have HB1 := Lib.hid hcc
    clear hm0 hcc
    obtain ⟨ls, hls⟩ : ∃ ls, ls = rs := ⟨_, rfl⟩
    rw [← hls] at HV HX HSS hsl h64 HB1 ⊢
    clear hls
    go_loopw [3] (fun iv wr => ∃ (k : Nat), iv = .int .i64 k ∧ k ≤ ls.length ∧ Hid (mayRs (ls.drop k) = v) ∧ Hid (Mod (fun _ => False) w0 wr)) (fun iv _ => ls.length - (intOf iv).toNat)
    case atStart => exact ⟨0, rfl, Nat.zero_le _, HV, Lib.hid (Mod.refl _ w0)⟩
    case round =>
      obtain ⟨k, rfl, hk, hV, hM⟩ := hrel
      have hx2 := hM.out.cell HB1.out id
      clear HV
      by_cases hlt : k < ls.length
      · obtain ⟨sk, bk, hx, hmem⟩ := xs_get3 HX.out hlt
        obtain ⟨b, o, rfl, x0, x1, x2⟩ := rd_cellR (HR.out.mod (HM0.out.trans hM.out) (fun _ _ => id)) hx
        have HT := Lib.hid (fun w' (m : Mod (fun _ => False) w w') => RefMayRule_any ls[k] sk bk w' (HSS.out _ (List.getElem_mem hlt)) ((HXT.out _ hmem).1.mod0 m) ((HXT.out _ hmem).2.mod0 m))
        obtain ⟨⟨sa, sc, hsk, _⟩, ⟨ba, bc, _, hbk, _⟩⟩ := HXT.out _ hmem
        simp only at hsk hbk
        subst hsk hbk
        have hd := hV.out
        rw [List.drop_eq_getElem_cons hlt, mayRs] at hd
        have HD := Lib.hid hd
        unfold rmV at HT
        clear hV hx hmem hd
        simp only at x1 x2 HT
        generalize mayRm ls[k] = mt at *
        generalize ls[k] = l at *
        obtain ⟨⟨lp, lts⟩, lb⟩ := l
        simp only at *
        by_cases hm : mt = 0
        · have HV2 : Hid (mayRs (ls.drop (k + 1)) = v) := by
            have := HD.out; rwa [if_neg (by simpa using hm)] at this
          subst hm
          go_wp2_with (first
            | (go_at_call 90; refine (HT.out _ (HM0.out.trans hM.out)).mono ?_; rintro e w' ⟨rfl, hM2⟩; have HM2 := Lib.hid hM2; clear hM2))
          go_roundw
          case rel => exact ⟨k + 1, by go_num, hlt, HV2, Lib.hid (hM.out.trans HM2.out)⟩
          case measure => simp [intOf]; omega
        · have HV2 : Hid (mt = v) := by have := HD.out; rwa [if_pos hm] at this
          have hmb : (mt != 0) = true := by simpa using hm
          clear hm
          go_wp2_with (first
            | (go_at_call 90; refine (HT.out _ (HM0.out.trans hM.out)).mono ?_; rintro e w' ⟨rfl, hM2⟩; have HM2 := Lib.hid hM2; clear hM2))
          go_ret
          exact ⟨ret_i HV2.out, HM0.out.trans (hM.out.trans HM2.out)⟩
      · obtain rfl : k = ls.length := by omega
        have HV2 : Hid (0 = v) := by have := hV.out; rwa [List.drop_length, mayRs] at this
        go_wp2
        go_ret
        exact ⟨ret_i HV2.out, HM0.out.trans hM.out⟩
end Go.Proofs.YteecbbnpgmceiaaGreatDoor
