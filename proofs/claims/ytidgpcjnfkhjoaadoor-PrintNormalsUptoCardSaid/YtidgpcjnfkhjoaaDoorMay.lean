/-
  Which programs may be: package syntax's walks.
-/
import Derived.Test.YtidgpcjnfkhjoaaDoorMayL
import Derived.Laws.StructEq
namespace Go.Proofs.YtidgpcjnfkhjoaaDoor
open Go Go.RowKit Go.Mine
set_option linter.unusedVariables false
set_option maxHeartbeats 1000000
set_option maxRecDepth 100000

theorem ret_i {a b : Int} (h : a = b) : Ending.returned (.int .i64 a) = .returned (.int .i64 b) := by rw [h]
theorem mayLong_any (s : ByteArray) (w : World) (hs : s.size < 2 ^ 40) :
    Calls Tryd.prog 168 #[.string s] w fun e w' => e = .returned (.int .i64 (if 4096 < s.size then 84 else 0)) ∧ w = w' := by
  by_cases h : 4096 < s.size
  · rw [if_pos h]
    go_enter Tryd.func168, Tryd.ntmps168
    go_wp2
    go_ret
    exact ⟨rfl, rfl⟩
  · rw [if_neg h]
    go_enter Tryd.func168, Tryd.ntmps168
    go_wp2
    go_ret
    exact ⟨rfl, rfl⟩
theorem mayWord_any (s : ByteArray) (k : Nat) (w : World) (hs : s.size < 2 ^ 30) :
    Calls Tryd.prog 149 #[.string s, .int .i64 k] w fun e w' => e = .returned (.int .i64 (if Word s ≠ k then 80 else if 4096 < s.size then 84 else 0)) ∧ Mod (fun _ => False) w w' := by
  have HW := Lib.hid (Word_any s w hs)
  have HL := Lib.hid (fun w => mayLong_any s w (by omega))
  generalize Word s = wd at *
  generalize (if 4096 < s.size then (84 : Int) else 0) = v at *
  by_cases h : wd = k
  · subst h
    rw [if_neg (by simp)]
    go_enter Tryd.func149, Tryd.ntmps149
    go_wp2_with (first
      | (go_at_call 167; refine HW.out.mono ?_; rintro e w' ⟨rfl, hM⟩; have HM := Lib.hid hM; clear hM)
      | (go_at_call 168; refine (HL.out _).mono ?_; rintro e w' ⟨rfl, rfl⟩))
    go_ret
    exact ⟨rfl, HM.out⟩
  · rw [if_pos h]
    have hb : ((wd : Int) != (k : Int)) = true := by simp; omega
    go_enter Tryd.func149, Tryd.ntmps149
    go_wp2_with (first
      | (go_at_call 167; refine HW.out.mono ?_; rintro e w' ⟨rfl, hM⟩; have HM := Lib.hid hM; clear hM))
    go_ret
    exact ⟨rfl, HM.out⟩
theorem toList_ne {s : ByteArray} {l : List UInt8} (h : s ≠ ⟨l.toArray⟩) : s.toList ≠ l := by
  intro e
  apply h
  rw [ByteArray.toList_eq] at e
  apply ByteArray.ext
  apply Array.ext'
  rw [e]
theorem empty_ne {s : ByteArray} (h : s ≠ emptyB) : s.toList.isEmpty = false := by
  have := toList_ne (l := []) h
  cases hh : s.toList with
  | nil => exact absurd hh this
  | cons a b => rfl
set_option maxHeartbeats 4000000 in
theorem mayTerm_any (t : Tm) (w : World) (hs : t.text.size < 2 ^ 30) :
    Calls Tryd.prog 150 #[tmV t] w fun e w' => e = .returned (.int .i64 (mayTm t)) ∧ Mod (fun _ => False) w w' := by
  obtain ⟨k, s⟩ := t
  obtain ⟨v, hv⟩ : ∃ v, v = mayTm ⟨k, s⟩ := ⟨_, rfl⟩
  rw [← hv]
  unfold mayTm at hv
  unfold tmV
  simp only at hv hs ⊢
  have HL := Lib.hid (fun w => mayLong_any s w (by omega))
  have HW := Lib.hid (fun w => mayWord_any s 2 w hs)
  by_cases h3 : k = 3
  · subst h3
    rw [if_pos rfl] at hv
    rw [← hv] at HL
    clear hv HW
    go_enter Tryd.func150, Tryd.ntmps150
    go_wp2_with (first
      | (go_at_call 168; refine (HL.out _).mono ?_; rintro e w' ⟨rfl, rfl⟩))
    go_ret
    exact ⟨rfl, (Mod.refl _ _).alloc _⟩
  rw [if_neg h3] at hv
  clear HL
  by_cases h2 : k = 2 ∨ k = 4
  · rw [if_pos h2] at hv
    clear h3 HW
    by_cases he : s = emptyB
    · rw [if_pos he] at hv
      subst hv
      unfold emptyB at he
      subst he
      rcases h2 with rfl | rfl
      all_goals
        go_enter Tryd.func150, Tryd.ntmps150
        go_wp2
        go_ret
        exact ⟨rfl, (Mod.refl _ _).alloc _⟩
    · rw [if_neg he] at hv
      subst hv
      have hE := empty_ne he
      clear he
      rcases h2 with rfl | rfl
      all_goals
        go_enter Tryd.func150, Tryd.ntmps150
        go_wp2
        go_ret
        exact ⟨rfl, (Mod.refl _ _).alloc _⟩
  rw [if_neg h2] at hv
  by_cases h1 : k = 1 ∨ k = 5 ∨ k = 6 ∨ k = 7
  · rw [if_pos h1] at hv
    clear h3 h2
    by_cases hb : s = blankB
    · rw [if_pos (.inl hb)] at hv
      subst hv
      unfold blankB at hb
      subst hb
      clear HW
      rcases h1 with rfl | rfl | rfl | rfl
      all_goals
        go_enter Tryd.func150, Tryd.ntmps150
        go_wp2
        go_ret
        exact ⟨rfl, (Mod.refl _ _).alloc _⟩
    · have hv2 : v = if Word s ≠ 2 then 80 else if 4096 < s.size then 84 else 0 := by
        rw [hv]
        by_cases hw : Word s ≠ 2
        · rw [if_pos (.inr hw), if_pos hw]
        · rw [if_neg (by rintro (h | h); exact hb h; exact hw h), if_neg hw]
      rw [← hv2] at HW
      clear hv hv2
      have hE := toList_ne (l := [95]) hb
      have hE2 : (s.toList == [95]) = false := by simpa using hE
      have hE3 : (s.toList != [95]) = true := by simpa using hE
      clear hb
      rcases h1 with rfl | rfl | rfl | rfl
      all_goals
        go_enter Tryd.func150, Tryd.ntmps150
        go_wp2_with (first
          | (go_at_call 149; refine (HW.out _).mono ?_; rintro e w' ⟨rfl, hM⟩; have HM := Lib.hid hM; clear hM))
        go_ret
        exact ⟨rfl, ((Mod.refl _ _).alloc _).trans HM.out⟩
  · rw [if_neg h1] at hv
    subst hv
    have b3 : (k == 3) = false := by simpa using h3
    have b2 : (k == 2) = false := by simpa using fun h => h2 (.inl h)
    have b4 : (k == 4) = false := by simpa using fun h => h2 (.inr h)
    have b1 : (k == 1) = false := by simpa using fun h => h1 (.inl h)
    have b5 : (k == 5) = false := by simpa using fun h => h1 (.inr (.inl h))
    have b6 : (k == 6) = false := by simpa using fun h => h1 (.inr (.inr (.inl h)))
    have b7 : (k == 7) = false := by simpa using fun h => h1 (.inr (.inr (.inr h)))
    clear h1 h2 h3 HW
    go_enter Tryd.func150, Tryd.ntmps150
    go_wp2
    go_ret
    exact ⟨rfl, (Mod.refl _ _).alloc _⟩

theorem mayAm_eq (head : Bool) (a : Am) : mayAm head a = if (if Word a.pred ≠ 1 then (80 : Int) else if 4096 < a.pred.size then 84 else 0) ≠ 0 then (if Word a.pred ≠ 1 then (80 : Int) else if 4096 < a.pred.size then 84 else 0) else if 64 < a.terms.length then 83 else mayTs head a.terms := by
  unfold mayAm
  by_cases h1 : Word a.pred ≠ 1
  · simp [h1]
  · by_cases h2 : 4096 < a.pred.size
    · simp [h1, h2]
    · simp [h1, h2]
theorem mayTs_agg {h : Bool} {t : Tm} {ts : List Tm} (h1 : 4 ≤ t.kind) (h2 : t.kind ≤ 7) : mayTs h (t :: ts) = if h = true then (if mayTm t ≠ 0 then mayTm t else mayTs false ts) else 80 := by
  rw [mayTs, if_pos ⟨h1, h2⟩]
theorem mayTs_other {h : Bool} {t : Tm} {ts : List Tm} (h1 : ¬ (4 ≤ t.kind ∧ t.kind ≤ 7)) : mayTs h (t :: ts) = if mayTm t ≠ 0 then mayTm t else mayTs h ts := by
  rw [mayTs, if_neg h1]
/-- no text is too long for the walk -/
def SmallTs (ts : List Tm) : Prop := ts.length < 2 ^ 30 ∧ ∀ t ∈ ts, t.text.size < 2 ^ 30
def SmallAm (a : Am) : Prop := a.pred.size < 2 ^ 30 ∧ SmallTs a.terms
def SmallLm (l : Lm) : Prop := SmallAm l.atom ∧ l.left.text.size < 2 ^ 30 ∧ l.right.text.size < 2 ^ 30
def SmallRm (r : Rm) : Prop := SmallAm r.head ∧ r.body.length < 2 ^ 30 ∧ ∀ l ∈ r.body, SmallLm l
def SmallPm (rs : List Rm) : Prop := rs.length < 2 ^ 30 ∧ ∀ r ∈ rs, SmallRm r
set_option maxHeartbeats 4000000 in
theorem mayAtom_any (head : Bool) (a : Am) (s : Value) (w : World) (hs : SmallAm a) (ht : TsAt w s a.terms) :
    Calls Tryd.prog 96 #[.agg #[.string a.pred, s], .bool head] w fun e w' => e = .returned (.int .i64 (mayAm head a)) ∧ Mod (fun _ => False) w w' := by
  obtain ⟨p, ts⟩ := a
  obtain ⟨hp, hl, hts⟩ := hs
  obtain ⟨ad, c, rfl, hr⟩ := ht
  rw [mayAm_eq]
  simp only at hp hl hts hr ⊢
  have HW := Lib.hid (fun w => mayWord_any p 1 w hp)
  have HR := Lib.hid hr; clear hr
  have HS := Lib.hid hts; clear hts
  generalize (if Word p ≠ 1 then (80 : Int) else if 4096 < p.size then 84 else 0) = x at *
  by_cases hx : x = 0
  · subst hx
    rw [if_neg (by simp)]
    by_cases h64 : 64 < ts.length
    · rw [if_pos h64]
      go_enter Tryd.func96, Tryd.ntmps96
      go_wp2_with (first
        | (go_at_call 149; refine (HW.out _).mono ?_; rintro e w1 ⟨rfl, hM⟩
           have hM1 := ((Mod.refl (fun _ => False) w).alloc (.cells #[.string p, .slice ad ts.length c] 40)).trans hM
           have hc0 := hM.cell (p := ⟨w.heap.size, 1, none⟩) (v := .slice ad ts.length c) (cell_new rfl) id
           have HM1 := Lib.hid hM1; clear hM hM1))
      go_ret
      exact ⟨rfl, HM1.out⟩
    · rw [if_neg h64]
      obtain ⟨v, hv⟩ : ∃ v, mayTs head ts = v := ⟨_, rfl⟩
      rw [hv]
      have HV := Lib.hid hv; clear hv
      go_enter Tryd.func96, Tryd.ntmps96
      go_wp2_with (first
        | (go_at_call 149; refine (HW.out _).mono ?_; rintro e w1 ⟨rfl, hM⟩
           have hM1 := ((Mod.refl (fun _ => False) w).alloc (.cells #[.string p, .slice ad ts.length c] 40)).trans hM
           have hc0 := hM.cell (p := ⟨w.heap.size, 1, none⟩) (v := .slice ad ts.length c) (cell_new rfl) id
           have HM1 := Lib.hid hM1; clear hM hM1))
      go_loopw [1, 22] (fun hv iv wr => ∃ (k : Nat) (h : Bool), hv = .bool h ∧ iv = .int .i64 k ∧ k ≤ ts.length ∧ Hid (mayTs h (ts.drop k) = v) ∧ Hid (Mod (fun _ => False) w wr)) (fun _ iv _ => ts.length - (intOf iv).toNat)
      case atStart => exact ⟨0, head, rfl, rfl, Nat.zero_le _, HV, HM1⟩
      case round =>
        obtain ⟨k, h, rfl, rfl, hk, hV, hM⟩ := hrel
        clear HV HM1 hc0
        by_cases hlt : k < ts.length
        · obtain ⟨b, o, rfl, x0, x1⟩ := rd_cell2 (HR.out.mod hM.out (fun _ _ => id)) hlt
          have HT := Lib.hid (fun w => mayTerm_any ts[k] w (HS.out _ (List.getElem_mem hlt)))
          have hd := hV.out
          rw [List.drop_eq_getElem_cons hlt] at hd
          unfold tmV at HT
          clear hV
          by_cases hk4 : 4 ≤ ts[k].kind ∧ ts[k].kind ≤ 7
          · rw [mayTs_agg hk4.1 hk4.2] at hd
            generalize mayTm ts[k] = mt at *
            generalize ts[k].kind = tk at *
            generalize ts[k].text = tx at *
            obtain ⟨hk4, hk7⟩ := hk4
            have HD := Lib.hid hd; clear hd
            cases h with
            | false =>
              have HV2 : Hid (80 = v) := by have := HD.out; rwa [if_neg (by simp)] at this
              go_wp2
              go_ret
              exact ⟨ret_i HV2.out, hM.out.alloc _⟩
            | true =>
              have HD2 : Hid ((if mt ≠ 0 then mt else mayTs false (ts.drop (k + 1))) = v) := by have := HD.out; rwa [if_pos rfl] at this
              clear HD
              by_cases hm : mt = 0
              · have HV2 := Lib.hid (by have := HD2.out; rwa [if_neg (by simpa using hm)] at this)
                subst hm
                go_wp2_with (first
                  | (go_at_call 150; refine (HT.out _).mono ?_; rintro e w' ⟨rfl, hM2⟩; have HM2 := Lib.hid hM2; clear hM2))
                go_roundw
                case rel => exact ⟨k + 1, false, rfl, by go_num, hlt, HV2, Lib.hid ((hM.out.alloc _).trans HM2.out)⟩
                case measure => simp [intOf]; omega
              · have hmb : (mt != 0) = true := by simpa using hm
                have HV2 := Lib.hid (by have := HD2.out; rwa [if_pos hm] at this)
                clear hm
                go_wp2_with (first
                  | (go_at_call 150; refine (HT.out _).mono ?_; rintro e w' ⟨rfl, hM2⟩; have HM2 := Lib.hid hM2; clear hM2))
                go_ret
                exact ⟨ret_i HV2.out, (hM.out.alloc _).trans HM2.out⟩
          · rw [mayTs_other hk4] at hd
            generalize mayTm ts[k] = mt at *
            generalize ts[k].kind = tk at *
            generalize ts[k].text = tx at *
            have HD2 := Lib.hid hd; clear hd
            have hk4 : tk < 4 ∨ 7 < tk := by omega
            rcases hk4 with hk4 | hk4
            all_goals
              by_cases hm : mt = 0
              · have HV2 := Lib.hid (by have := HD2.out; rwa [if_neg (by simpa using hm)] at this)
                subst hm
                go_wp2_with (first
                  | (go_at_call 150; refine (HT.out _).mono ?_; rintro e w' ⟨rfl, hM2⟩; have HM2 := Lib.hid hM2; clear hM2))
                go_roundw
                case rel => exact ⟨k + 1, h, rfl, by go_num, hlt, HV2, Lib.hid ((hM.out.alloc _).trans HM2.out)⟩
                case measure => simp [intOf]; omega
              · have hmb : (mt != 0) = true := by simpa using hm
                have HV2 := Lib.hid (by have := HD2.out; rwa [if_pos hm] at this)
                clear hm
                go_wp2_with (first
                  | (go_at_call 150; refine (HT.out _).mono ?_; rintro e w' ⟨rfl, hM2⟩; have HM2 := Lib.hid hM2; clear hM2))
                go_ret
                exact ⟨ret_i HV2.out, (hM.out.alloc _).trans HM2.out⟩
        · obtain rfl : k = ts.length := by omega
          have HV2 : Hid (0 = v) := by have := hV.out; rwa [List.drop_length, mayTs] at this
          go_wp2
          go_ret
          exact ⟨ret_i HV2.out, hM.out⟩
  · rw [if_pos hx]
    have hxb : (x != 0) = true := by simpa using hx
    go_enter Tryd.func96, Tryd.ntmps96
    go_wp2_with (first
      | (go_at_call 149; refine (HW.out _).mono ?_; rintro e w' ⟨rfl, hM⟩; have HM := Lib.hid hM; clear hM))
    go_ret
    exact ⟨rfl, ((Mod.refl _ _).alloc _).trans HM.out⟩
end Go.Proofs.YtidgpcjnfkhjoaaDoor
