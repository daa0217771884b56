import Derived.Test.YtgfekdebjafodaaRefPage
namespace Go.Proofs.Ytgfekdebjafodaa
open Go Go.RowKit Go.Mine
set_option maxHeartbeats 400000
set_option maxRecDepth 100000
set_option linter.unusedVariables false

theorem texts_any (a1 a2 : Option Addr) (c1 c2 : Nat) (xs ys : List ByteArray) (w : World)
   (ha : Rd w a1 (sts xs)) (hb : Rd w a2 (sts ys)) (hn : xs.length < 2^60) (hn2 : ys.length < 2^60) :
   Calls Try.prog 17 #[.slice a1 xs.length c1, .slice a2 ys.length c2] w fun e w' =>
     e = .returned (.bool (decide (xs = ys))) ∧ Mod (fun _ => False) w w' := by
  have HA := Lib.hid ha; clear ha
  have HB := Lib.hid hb; clear hb
  by_cases hl : xs.length = ys.length
  · rw [← hl]
    have HL := Lib.hid hl; clear hl
    go_enter Try.func17, Try.ntmps17
    go_wp2
    go_loopw [5] (fun i wr => ∃ k : Nat, k ≤ xs.length ∧ i = .int .i64 k ∧ Hid (Mod (fun _ => False) w wr) ∧ Hid (xs.take k = ys.take k)) (fun i _ => xs.length - (intOf i).toNat)
    case atStart => exact ⟨0, by omega, rfl, Mod.refl _ w, by simp [Hid]⟩
    case round =>
      obtain ⟨k, hk, rfl, hM, hj⟩ := hrel
      by_cases hlt : k < xs.length
      · have hlt2 : k < ys.length := by have := HL.out; omega
        obtain ⟨b1, o1, rfl, h1⟩ := (HA.out.mod hM.out (fun _ _ => id)) k (.string xs[k]) (by simp [sts, hlt])
        obtain ⟨b2, o2, rfl, h2⟩ := (HB.out.mod hM.out (fun _ _ => id)) k (.string ys[k]) (by simp [sts, hlt2])
        generalize hs : xs[k] = s at h1
        generalize ht : ys[k] = t at h2
        have Hs := Lib.hid hs; clear hs
        have Ht := Lib.hid ht; clear ht
        by_cases heq : s = t
        · subst heq
          go_wp2
          go_quiet (fail)
          go_wp2
          go_roundw
          case rel => exact ⟨k+1, hlt, by go_num, hM.out.drewN _, by
            unfold Hid; rw [List.take_succ_eq_append_getElem hlt, List.take_succ_eq_append_getElem hlt2, hj.out, Hs.out, Ht.out]⟩
          case measure => simp [intOf]; omega
        · have hne : (s.toList == t.toList) = false := by rw [baEq]; simpa using heq
          have HEQ := Lib.hid heq; clear heq
          go_wp2
          go_quiet (fail)
          go_wp2
          go_ret
          have hd : decide (xs = ys) = false := by
            simp only [decide_eq_false_iff_not]
            intro e; subst e; exact HEQ.out (Hs.out.symm.trans Ht.out)
          exact ⟨by rw [hd]; rfl, hM.out.drewN _⟩
      · obtain rfl : k = xs.length := by omega
        go_wp2
        go_ret
        have hd : decide (xs = ys) = true := by
          have := hj.out
          have hl := HL.out
          rw [List.take_length] at this
          have e2 : ys.take xs.length = ys := List.take_of_length_le (by omega)
          rw [e2] at this
          simpa using this
        exact ⟨by rw [hd]; rfl, hM.out⟩
  · have hd : decide (xs = ys) = false := by
      simp only [decide_eq_false_iff_not]
      intro e; subst e; exact hl rfl
    rw [hd]
    go_enter Try.func17, Try.ntmps17
    go_wp2
    go_ret
    exact ⟨rfl, Mod.refl _ w⟩

theorem ti22 : TI Try.prog 22 9 1 16 := TI.mk' (z := .string ByteArray.empty) (by kernel_rfl) (by kernel_rfl) rfl (by omega)
def markS : ByteArray := ⟨#[109, 97, 114, 107]⟩
theorem lent_any (a : Option Addr) (c : Nat) (l : List ByteArray) (w : World) (hr : Rd w a (sts l)) (hn : l.length < 2^40) :
    Calls Try.prog 7 #[.slice a l.length c] w fun e w' => ∃ g c', e = .returned (.slice (some ⟨g, 0, none⟩) l.length c') ∧ w.heap.size ≤ g ∧ l.length + 1 ≤ c' ∧
      Own w' 9 1 (some ⟨g, 0, none⟩) (l.length + 1) c' (sts (l ++ [markS])) ∧ Mod (fun _ => False) w w' := by
  have HR := Lib.hid hr; clear hr
  go_enter Try.func7, Try.ntmps7
  go_wp2_with (first
    | (at_builtin; refine wpL_append0 rfl (.tmp 4) (.tmp 5) 22 22 rfl ti22 rfl rfl (Src.ofRd ti22.ht l.length c HR.out (by simp) (sts_one l)) (by omega) (by unfold maxLen; omega) ?_; intro a2 c2 w2 hO2 hM2 hF2 _
       have HO2 := Lib.hid hO2; have HM2 := Lib.hid hM2; have HF2 := Lib.hid hF2; clear hO2 hM2 hF2)
    | (at_builtin; refine wpL_appendN (us := [_]) rfl (.tmp 6) (.tmp 7) 22 rfl ti22 rfl HO2.out rfl rfl rfl (by omega) (by unfold maxLen; omega) ?_; intro a3 c3 w3 hO3 hG3 _
       obtain ⟨g3, rfl⟩ := hO3.atHead (by omega)
       have hc3 : l.length + 1 ≤ c3 := by
         obtain ⟨_, _, _, _, h, _⟩ := hO3.2.resolve_left (by simp)
         exact h
       have HO3 := Lib.hid hO3; have HG3 := Lib.hid hG3; clear hO3 hG3))
  go_ret
  refine ⟨g3, c3, rfl, ?_, hc3, ?_, HM2.out.step HG3.out.mod (fun i hi hs => by have := HF2.out i hs; omega)⟩
  · rcases HG3.out.pos with e | ⟨b, e, hb⟩
    · exact HF2.out g3 (by rw [← e]; rfl)
    · simp at e; have := HM2.out.size; omega
  · have := HO3.out
    rw [sts_append]; exact this

theorem kept_true (g c1 : Nat) (a2 : Option Addr) (c2 : Nat) (l : List ByteArray) (w : World) (hO : Own w 9 1 (some ⟨g, 0, none⟩) (l.length + 1) c1 (sts (l ++ [markS]))) (hr : Rd w a2 (sts l)) (hn : l.length < 2^40) (hc1 : l.length + 1 ≤ c1) :
    Calls Try.prog 10 #[.slice (some ⟨g, 0, none⟩) l.length c1, .slice a2 l.length c2] w fun e w' => e = .returned (.bool true) ∧ Mod (fun _ => False) w w' := by
  have HO := Lib.hid hO; have HR := Lib.hid hr; clear hO hr
  have h1 : Rd w (some ⟨g, 0, none⟩) (sts l) := by
    have := HO.out.rd.take l.length
    rw [sts_append, List.take_left' (by simp)] at this
    exact this
  have H1 := Lib.hid h1; clear h1
  have hcell : w.cell? ⟨g, l.length, none⟩ = some (.string markS) := by
    obtain ⟨b, o, e, hc⟩ := HO.out.rd l.length (.string markS) (by simp [sts])
    cases e
    simpa using hc
  go_enter Try.func10, Try.ntmps10
  go_wp2_with (go_at_call 17; refine (texts_any _ _ c1 c2 l l _ H1.out HR.out (by omega) (by omega)).mono ?_; rintro e w2 ⟨rfl, hM2⟩; have hc2 := hM2.cell hcell id; have HM2 := Lib.hid hM2; clear hM2)
  go_ret
  exact ⟨ret_bool (by rw [ByteArray.toList_eq]; rfl), HM2.out⟩

theorem conv24 (a : Option Addr) (l : List UInt8) (c : Nat) (w : World) (h : Rd w a (bts l)) : (convert 24 9 (.slice a l.length c)).run Try.prog w = .ok (.string ⟨l.toArray⟩) w :=
  run_bytes_str (e := 5) (by kernel_rfl) (by kernel_rfl) (by kernel_rfl) c h

/-- the texts as they grow: turn by turn -/
def xS : ByteArray := ⟨#[120]⟩
theorem symtabPages_walk (a : Option Addr) (c : Nat) (l : List ByteArray) (w : World) (hr : Rd w a (sts l)) (hn : l.length ≤ 1048576) (hs : ∀ s ∈ l, s.size ≤ 1048576) :
    Calls Try.prog 3 #[.slice a l.length c] w fun e w' => e = .returned (.bool true) ∧ Mod (fun _ => False) w w' := by
  have HR := Lib.hid hr; have HS := Lib.hid hs; clear hr hs
  go_enter Try.func3, Try.ntmps3
  go_wp2_with (go_at_call 7; refine (lent_any a c l _ HR.out (by omega)).mono ?_; rintro e w1 ⟨g, c1, rfl, hg, hc1, hO1, hM1⟩; have HO1 := Lib.hid hO1; have HM1 := Lib.hid hM1; clear hO1 hM1)
  go_loopw [4] (fun t wr => ∃ (k : Nat) (xs : List ByteArray), k ≤ 3 ∧ t = .int .i64 k ∧ xs.length = l.length ∧ Hid (∀ s ∈ xs, s.size ≤ 1048576 + k) ∧ Hid (Own wr 9 1 (some ⟨g, 0, none⟩) (l.length + 1) c1 (sts (xs ++ [markS]))) ∧ Hid (Mod (fun _ => False) w wr)) (fun t _ => 3 - (intOf t).toNat)
  case atStart => exact ⟨0, l, by omega, rfl, rfl, HS, HO1, HM1⟩
  case round =>
    obtain ⟨k, xs, hk, rfl, hxl, hsz, hO, hM⟩ := hrel
    have HXL := Lib.hid hxl; clear hxl
    by_cases hlt : k < 3
    · have hrd : Rd wr (some ⟨g, 0, none⟩) (sts xs) := by
        have := hO.out.rd.take xs.length
        rw [sts_append, List.take_left' (by simp)] at this
        exact this
      have HRD := Lib.hid hrd; clear hrd
      have HL : Hid (∀ (w : World), Rd w (some ⟨g, 0, none⟩) (sts xs) → Calls Try.prog 7 #[.slice (some ⟨g, 0, none⟩) l.length c1] w fun e w' => ∃ g2 c2, e = .returned (.slice (some ⟨g2, 0, none⟩) l.length c2) ∧ w.heap.size ≤ g2 ∧ Rd w' (some ⟨g2, 0, none⟩) (sts xs) ∧ Mod (fun _ => False) w w') := fun w2 hr => by
        rw [← HXL.out]
        refine (lent_any _ c1 xs w2 hr (by rw [HXL.out]; omega)).mono ?_
        rintro e w' ⟨g2, c2, h1, h2, h3, h4, h5⟩
        refine ⟨g2, c2, h1, h2, ?_, h5⟩
        have := h4.rd.take xs.length
        rw [sts_append, List.take_left' (by simp)] at this
        exact this
      have HP : Hid (∀ (w : World), Rd w (some ⟨g, 0, none⟩) (sts xs) → Calls Try.prog 8 #[.slice (some ⟨g, 0, none⟩) l.length c1] w fun e w' => ∃ v, e = .returned (.tuple #[v, .int .i64 (pgErr none xs)]) ∧ PgRes w w' xs v) := fun w2 hr => by
        rw [← HXL.out]
        exact symPage_any _ xs c1 w2 hr (by rw [HXL.out]; omega) (fun s hs => by have := hsz.out s hs; omega)
      have HQ : Hid (∀ (w : World) (g2 c2 : Nat), Rd w (some ⟨g2, 0, none⟩) (sts xs) → Calls Try.prog 9 #[.slice (some ⟨g2, 0, none⟩) l.length c2] w fun e w' => ∃ v, e = .returned (.tuple #[v, .int .i64 (pgErr none xs)]) ∧ PgRes w w' xs v) := fun w2 g2 c2 hr => by
        rw [← HXL.out]
        exact refPage_any _ xs c2 w2 hr (by rw [HXL.out]; omega) (fun s hs => by have := hsz.out s hs; omega)
      have HK : Hid (∀ (w : World) (g2 c2 : Nat), Own w 9 1 (some ⟨g, 0, none⟩) (l.length + 1) c1 (sts (xs ++ [markS])) → Rd w (some ⟨g2, 0, none⟩) (sts xs) → Calls Try.prog 10 #[.slice (some ⟨g, 0, none⟩) l.length c1, .slice (some ⟨g2, 0, none⟩) l.length c2] w fun e w' => e = .returned (.bool true) ∧ Mod (fun _ => False) w w') := fun w2 g2 c2 h1 hr => by
        rw [← HXL.out] at h1 ⊢
        exact kept_true g c1 _ c2 xs w2 h1 hr (by rw [HXL.out]; omega) (by rw [HXL.out]; exact hc1)
      go_wp2_with (first
        | (go_at_call 7; refine (HL.out _ HRD.out).mono ?_; rintro e w2 ⟨g2, c2, rfl, hg2, hR2, hM2⟩; have HR2 := Lib.hid hR2; have HM2 := Lib.hid hM2; clear hR2 hM2)
        | (go_at_call 8; refine (HP.out _ (HRD.out.mod HM2.out (fun _ _ => id))).mono ?_; rintro e w3 ⟨v3, rfl, hp3⟩
           obtain ⟨hm3, a3, c3, rfl, hr3⟩ := hp3
           have HM3 := Lib.hid hm3; have HR3 := Lib.hid hr3; clear hm3 hr3)
        | (go_at_call 9; refine (HQ.out _ g2 c2 (HR2.out.mod HM3.out (fun _ _ => id))).mono ?_; rintro e w4 ⟨v4, rfl, hp4⟩
           obtain ⟨hm4, a4, c4, rfl, hr4⟩ := hp4
           have hk3 := conv24 a3 _ c3 w4 (HR3.out.mod hm4 (fun _ _ => id))
           have hk4 := conv24 a4 _ c4 w4 hr4
           have HM4 := Lib.hid hm4; clear hm4 hr4
           generalize (if pgErr none xs = 0 then pgBytes xs else []) = bs at *)
        | (go_at_call 10; refine (HK.out _ g2 c2 (hO.out.mod ((HM2.out.trans HM3.out).trans HM4.out) (fun _ _ => id)) (HR2.out.mod (HM3.out.trans HM4.out) (fun _ _ => id))).mono ?_; rintro e w5 ⟨rfl, hm5⟩
           have HM5 := Lib.hid (((HM2.out.trans HM3.out).trans HM4.out).trans hm5); clear hm5 HM2 HM3 HM4))
      have hOw := hO.out.mod HM5.out (fun _ _ => id)
      have HOw := Lib.hid hOw; clear hOw hk3 hk4
      clear HL HP HQ HK HR3 HR2
      obtain ⟨wo, hwo⟩ : ∃ wo : World, wo = w5 := ⟨_, rfl⟩
      subst hwo
      go_loopw [10] (fun i wr5 => ∃ (j : Nat) (ys : List ByteArray), j ≤ l.length ∧ i = .int .i64 j ∧ Hid (ys.length = l.length) ∧ Hid (∀ (i : Nat) (s : ByteArray), ys[i]? = some s → s.size ≤ 1048576 + k + (if i < j then 1 else 0)) ∧ Hid (Own wr5 9 1 (some ⟨g, 0, none⟩) (l.length + 1) c1 (sts (ys ++ [markS]))) ∧ Hid (Mod (fun _ => False) w wr5)) (fun i _ => l.length - (intOf i).toNat)
      case atStart => exact ⟨0, xs, by omega, rfl, HXL, Lib.hid (fun i s h => by have := hsz.out s (List.mem_of_getElem? h); simpa using this), HOw, hM.out.trans HM5.out⟩
      case round =>
        obtain ⟨j, ys, hj, rfl, hyl, hys, hOy, hMy⟩ := hrel
        by_cases hin : j < l.length ∧ k = 0
        · obtain ⟨hjl, hk0⟩ := hin
          have hjy : j < ys.length := by rw [hyl.out]; exact hjl
          have hcell : ∀ wr5 : World, Own wr5 9 1 (some ⟨g, 0, none⟩) (l.length + 1) c1 (sts (ys ++ [markS])) → wr5.cell? ⟨g, j, none⟩ = some (.string ys[j]) := fun wr5 h => by
            obtain ⟨b, o, e, hc⟩ := h.rd j (.string ys[j]) (by simp [sts, List.getElem?_append_left, hjy])
            cases e
            simpa using hc
          have hcj := hcell _ hOy.out
          have hfj := hOy.out.frozen (b := g) (o := j) rfl
          have hsj := hys.out j ys[j] (by simp [hjy])
          rw [if_neg (by omega)] at hsj
          generalize hsy : ys[j] = s at *
          have HSY := Lib.hid hsy; clear hsy hcell
          subst hk0
          go_wp2
          go_roundw
          case rel =>
            have hst := hOy.out.store j (.string (s ++ ⟨#[120]⟩))
            have e : (sts (ys ++ [markS])).set j (.string (s ++ ⟨#[120]⟩)) = sts (ys.set j (s ++ ⟨#[120]⟩) ++ [markS]) := by
              simp only [sts, ← List.map_set]
              rw [List.set_append_left _ _ hjy]
            rw [e] at hst
            refine ⟨j + 1, ys.set j (s ++ ⟨#[120]⟩), hjl, by go_num, by unfold Hid; rw [List.length_set]; exact hyl.out, ?_, Lib.hid hst, hMy.out.setCell (p := ⟨g, j, none⟩) (fun h => by simp at h; omega) _⟩
            intro i s' hi
            by_cases hij : i = j
            · subst hij
              rw [List.getElem?_set_self hjy] at hi
              cases hi
              have : (s ++ (⟨#[120]⟩ : ByteArray)).size = s.size + 1 := by rw [ByteArray.size_append]; rfl
              rw [this, if_pos (by omega)]; omega
            · rw [List.getElem?_set_ne (Ne.symm hij)] at hi
              have := hys.out i s' hi
              split at this <;> split <;> omega
          case measure => simp [intOf]; omega
        · have hys2 : ∀ s ∈ ys, s.size ≤ 1048576 + (k + 1) := fun s hs => by
            obtain ⟨i, hi⟩ := List.getElem?_of_mem hs
            have := hys.out i s hi
            split at this <;> omega
          have HY2 := Lib.hid hys2; clear hys2
          have hin2 : j < l.length → ¬ k = 0 := fun h1 h2 => hin ⟨h1, h2⟩
          clear hin
          have hyl2 := hyl.out
          have HYL := Lib.hid hyl2; clear hyl2
          by_cases hlen1 : 1 < l.length
          · have hl0 : ys.length = l.length := hyl.out
            have hcell : ∀ (i : Nat) (hi : i < ys.length), wr.cell? ⟨g, i, none⟩ = some (.string ys[i]) := fun i hi => by
              obtain ⟨b, o, e, hc⟩ := hOy.out.rd i (.string ys[i]) (by simp [sts, List.getElem?_append_left, hi])
              cases e
              simpa using hc
            have hc0 := hcell 0 (by omega)
            have hcl := hcell (l.length - 1) (by omega)
            have hf0 := hOy.out.frozen (b := g) (o := 0) rfl
            have hln : ((l.length : Int) - 1).toNat = l.length - 1 := by omega
            generalize hq0 : ys[0] = q0 at *
            clear hq0
            generalize hq : ys[l.length - 1] = q at *
            have HQ := Lib.hid hq; clear hq
            clear hcell
            obtain rfl | rfl | rfl : k = 0 ∨ k = 1 ∨ k = 2 := by omega
            · by_cases hjl : j < l.length
              · exact absurd rfl (hin2 hjl)
              · clear hin2
                go_wp2
                go_roundw
                case rel => exact ⟨1, ys, by omega, rfl, HYL.out, HY2, hOy, hMy⟩
                case measure => simp [intOf]
            · have hst := hOy.out.store 0 (.string q)
              have e : (sts (ys ++ [markS])).set 0 (.string q) = sts (ys.set 0 q ++ [markS]) := by
                simp only [sts, ← List.map_set]
                rw [List.set_append_left _ _ (by omega)]
              rw [e] at hst
              have HST := Lib.hid hst; clear hst e
              have hq2 : ∀ s ∈ ys.set 0 q, s.size ≤ 1048576 + 2 := fun s hs => by
                rcases List.mem_or_eq_of_mem_set hs with h | h
                · exact HY2.out s h
                · subst h; exact HY2.out _ (by rw [← HQ.out]; exact List.getElem_mem _)
              have HQ2 := Lib.hid hq2; clear hq2
              by_cases hjl : j < l.length
              all_goals
                clear hin2
                go_wp2
                go_roundw
                case rel => exact ⟨2, ys.set 0 q, by omega, rfl, by rw [List.length_set]; exact HYL.out, HQ2, HST, hMy.out.setCell (p := ⟨g, 0, none⟩) (fun h => by simp at h; omega) _⟩
                case measure => simp [intOf]
            · by_cases hjl : j < l.length
              all_goals
                clear hin2
                go_wp2
                go_roundw
                case rel => exact ⟨3, ys, by omega, rfl, HYL.out, HY2, hOy, hMy⟩
                case measure => simp [intOf]
          · obtain rfl | rfl | rfl : k = 0 ∨ k = 1 ∨ k = 2 := by omega
            · by_cases hjl : j < l.length
              · exact absurd rfl (hin2 hjl)
              · clear hin2
                go_wp2
                go_roundw
                case rel => exact ⟨1, ys, by omega, rfl, HYL.out, HY2, hOy, hMy⟩
                case measure => simp [intOf]
            · by_cases hjl : j < l.length
              all_goals
                clear hin2
                go_wp2
                go_roundw
                case rel => exact ⟨2, ys, by omega, rfl, HYL.out, HY2, hOy, hMy⟩
                case measure => simp [intOf]
            · by_cases hjl : j < l.length
              all_goals
                clear hin2
                go_wp2
                go_roundw
                case rel => exact ⟨3, ys, by omega, rfl, HYL.out, HY2, hOy, hMy⟩
                case measure => simp [intOf]
    · obtain rfl : k = 3 := by omega
      go_wp2
      go_ret
      exact ⟨rfl, hM.out⟩
end Go.Proofs.Ytgfekdebjafodaa
