/-
  Which programs may be: package syntax's walks.
-/
import Derived.Test.YtphgglnkdfndiaaDoorMayL
import Derived.Laws.StructEq
import Derived.Deep.DeepCutAuto
namespace Go.Proofs.YtphgglnkdfndiaaDoor
open Go Go.RowKit Go.Mine
set_option linter.unusedVariables false
set_option maxHeartbeats 1000000
set_option maxRecDepth 100000

theorem ret_i {a b : Int} (h : a = b) : Ending.returned (.int .i64 a) = .returned (.int .i64 b) := by rw [h]
theorem mayLong_any (s : ByteArray) (w : World) (hs : s.size < 2 ^ 40) :
    Calls Tryd.prog 76 #[.string s] w fun e w' => e = .returned (.int .i64 (if 4096 < s.size then 84 else 0)) ∧ w = w' := by
  by_cases h : 4096 < s.size
  · rw [if_pos h]
    go_enter Tryd.func76, Tryd.ntmps76
    go_wp2
    go_ret
    exact ⟨rfl, rfl⟩
  · rw [if_neg h]
    go_enter Tryd.func76, Tryd.ntmps76
    go_wp2
    go_ret
    exact ⟨rfl, rfl⟩
theorem mayWord_any (s : ByteArray) (k : Nat) (w : World) (hs : s.size < 2 ^ 30) :
    Calls Tryd.prog 65 #[.string s, .int .i64 k] w fun e w' => e = .returned (.int .i64 (if Word s ≠ k then 80 else if 4096 < s.size then 84 else 0)) ∧ Mod (fun _ => False) w w' := by
  have HW := Lib.hid (Word_any s w hs)
  have HL := Lib.hid (fun w => mayLong_any s w (by omega))
  generalize Word s = wd at *
  generalize (if 4096 < s.size then (84 : Int) else 0) = v at *
  by_cases h : wd = k
  · subst h
    rw [if_neg (by simp)]
    go_enter Tryd.func65, Tryd.ntmps65
    go_wp2_with (first
      | (go_at_call 75; refine HW.out.mono ?_; rintro e w' ⟨rfl, hM⟩; have HM := Lib.hid hM; clear hM)
      | (go_at_call 76; refine (HL.out _).mono ?_; rintro e w' ⟨rfl, rfl⟩))
    go_ret
    exact ⟨rfl, HM.out⟩
  · rw [if_pos h]
    have hb : ((wd : Int) != (k : Int)) = true := by simp; omega
    go_enter Tryd.func65, Tryd.ntmps65
    go_wp2_with (first
      | (go_at_call 75; refine HW.out.mono ?_; rintro e w' ⟨rfl, hM⟩; have HM := Lib.hid hM; clear hM))
    go_ret
    exact ⟨rfl, HM.out⟩
theorem toList_ne {s : ByteArray} {l : List UInt8} (h : s ≠ ⟨l.toArray⟩) : s.toList ≠ l := by
  intro e
  apply h
  rw [ByteArray.toList_eq] at e
  apply ByteArray.ext
  apply Array.ext'
  rw [e]
theorem empty_ne {s : ByteArray} (h : s ≠ emptyB) : s.toList.isEmpty = false := by
  have := toList_ne (l := []) h
  cases hh : s.toList with
  | nil => exact absurd hh this
  | cons a b => rfl
set_option maxHeartbeats 4000000 in
theorem mayTerm_any (t : Tm) (w : World) (hs : t.text.size < 2 ^ 30) :
    Calls Tryd.prog 66 #[tmV t] w fun e w' => e = .returned (.int .i64 (mayTm t)) ∧ Mod (fun _ => False) w w' := by
  obtain ⟨k, s⟩ := t
  obtain ⟨v, hv⟩ : ∃ v, v = mayTm ⟨k, s⟩ := ⟨_, rfl⟩
  rw [← hv]
  unfold mayTm at hv
  unfold tmV
  simp only at hv hs ⊢
  have HL := Lib.hid (fun w => mayLong_any s w (by omega))
  have HW := Lib.hid (fun w => mayWord_any s 2 w hs)
  by_cases h3 : k = 3
  · subst h3
    rw [if_pos rfl] at hv
    rw [← hv] at HL
    clear hv HW
    go_enter Tryd.func66, Tryd.ntmps66
    go_wp2_with (first
      | (go_at_call 76; refine (HL.out _).mono ?_; rintro e w' ⟨rfl, rfl⟩))
    go_ret
    exact ⟨rfl, (Mod.refl _ _).alloc _⟩
  rw [if_neg h3] at hv
  clear HL
  by_cases h2 : k = 2 ∨ k = 4
  · rw [if_pos h2] at hv
    clear h3 HW
    by_cases he : s = emptyB
    · rw [if_pos he] at hv
      subst hv
      unfold emptyB at he
      subst he
      rcases h2 with rfl | rfl
      all_goals
        go_enter Tryd.func66, Tryd.ntmps66
        go_wp2
        go_ret
        exact ⟨rfl, (Mod.refl _ _).alloc _⟩
    · rw [if_neg he] at hv
      subst hv
      have hE := empty_ne he
      clear he
      rcases h2 with rfl | rfl
      all_goals
        go_enter Tryd.func66, Tryd.ntmps66
        go_wp2
        go_ret
        exact ⟨rfl, (Mod.refl _ _).alloc _⟩
  rw [if_neg h2] at hv
  by_cases h1 : k = 1 ∨ k = 5 ∨ k = 6 ∨ k = 7
  · rw [if_pos h1] at hv
    clear h3 h2
    by_cases hb : s = blankB
    · rw [if_pos (.inl hb)] at hv
      subst hv
      unfold blankB at hb
      subst hb
      clear HW
      rcases h1 with rfl | rfl | rfl | rfl
      all_goals
        go_enter Tryd.func66, Tryd.ntmps66
        go_wp2
        go_ret
        exact ⟨rfl, (Mod.refl _ _).alloc _⟩
    · have hv2 : v = if Word s ≠ 2 then 80 else if 4096 < s.size then 84 else 0 := by
        rw [hv]
        by_cases hw : Word s ≠ 2
        · rw [if_pos (.inr hw), if_pos hw]
        · rw [if_neg (by rintro (h | h); exact hb h; exact hw h), if_neg hw]
      rw [← hv2] at HW
      clear hv hv2
      have hE := toList_ne (l := [95]) hb
      have hE2 : (s.toList == [95]) = false := by simpa using hE
      have hE3 : (s.toList != [95]) = true := by simpa using hE
      clear hb
      rcases h1 with rfl | rfl | rfl | rfl
      all_goals
        go_enter Tryd.func66, Tryd.ntmps66
        go_wp2_with (first
          | (go_at_call 65; refine (HW.out _).mono ?_; rintro e w' ⟨rfl, hM⟩; have HM := Lib.hid hM; clear hM))
        go_ret
        exact ⟨rfl, ((Mod.refl _ _).alloc _).trans HM.out⟩
  · rw [if_neg h1] at hv
    subst hv
    have b3 : (k == 3) = false := by simpa using h3
    have b2 : (k == 2) = false := by simpa using fun h => h2 (.inl h)
    have b4 : (k == 4) = false := by simpa using fun h => h2 (.inr h)
    have b1 : (k == 1) = false := by simpa using fun h => h1 (.inl h)
    have b5 : (k == 5) = false := by simpa using fun h => h1 (.inr (.inl h))
    have b6 : (k == 6) = false := by simpa using fun h => h1 (.inr (.inr (.inl h)))
    have b7 : (k == 7) = false := by simpa using fun h => h1 (.inr (.inr (.inr h)))
    clear h1 h2 h3 HW
    go_enter Tryd.func66, Tryd.ntmps66
    go_wp2
    go_ret
    exact ⟨rfl, (Mod.refl _ _).alloc _⟩

theorem mayAm_eq (head : Bool) (a : Am) : mayAm head a = if (if Word a.pred ≠ 1 then (80 : Int) else if 4096 < a.pred.size then 84 else 0) ≠ 0 then (if Word a.pred ≠ 1 then (80 : Int) else if 4096 < a.pred.size then 84 else 0) else if 64 < a.terms.length then 83 else mayTs head a.terms := by
  unfold mayAm
  by_cases h1 : Word a.pred ≠ 1
  · simp [h1]
  · by_cases h2 : 4096 < a.pred.size
    · simp [h1, h2]
    · simp [h1, h2]
theorem mayTs_agg {h : Bool} {t : Tm} {ts : List Tm} (h1 : 4 ≤ t.kind) (h2 : t.kind ≤ 7) : mayTs h (t :: ts) = if h = true then (if mayTm t ≠ 0 then mayTm t else mayTs false ts) else 80 := by
  rw [mayTs, if_pos ⟨h1, h2⟩]
theorem mayTs_other {h : Bool} {t : Tm} {ts : List Tm} (h1 : ¬ (4 ≤ t.kind ∧ t.kind ≤ 7)) : mayTs h (t :: ts) = if mayTm t ≠ 0 then mayTm t else mayTs h ts := by
  rw [mayTs, if_neg h1]
/-- no text is too long for the walk -/
def SmallTs (ts : List Tm) : Prop := ts.length < 2 ^ 30 ∧ ∀ t ∈ ts, t.text.size < 2 ^ 30
def SmallAm (a : Am) : Prop := a.pred.size < 2 ^ 30 ∧ SmallTs a.terms
def SmallLm (l : Lm) : Prop := SmallAm l.atom ∧ l.left.text.size < 2 ^ 30 ∧ l.right.text.size < 2 ^ 30
def SmallRm (r : Rm) : Prop := SmallAm r.head ∧ r.body.length < 2 ^ 30 ∧ ∀ l ∈ r.body, SmallLm l
def SmallPm (rs : List Rm) : Prop := rs.length < 2 ^ 30 ∧ ∀ r ∈ rs, SmallRm r
set_option maxHeartbeats 4000000 in
theorem mayAtom_any (head : Bool) (a : Am) (s : Value) (w : World) (hs : SmallAm a) (ht : TsAt w s a.terms) :
    Calls Tryd.prog 45 #[.agg #[.string a.pred, s], .bool head] w fun e w' => e = .returned (.int .i64 (mayAm head a)) ∧ Mod (fun _ => False) w w' := by
  obtain ⟨p, ts⟩ := a
  obtain ⟨hp, hl, hts⟩ := hs
  obtain ⟨ad, c, rfl, hr⟩ := ht
  rw [mayAm_eq]
  simp only at hp hl hts hr ⊢
  have HW := Lib.hid (fun w => mayWord_any p 1 w hp)
  have HR := Lib.hid hr; clear hr
  have HS := Lib.hid hts; clear hts
  generalize (if Word p ≠ 1 then (80 : Int) else if 4096 < p.size then 84 else 0) = x at *
  by_cases hx : x = 0
  · subst hx
    rw [if_neg (by simp)]
    by_cases h64 : 64 < ts.length
    · rw [if_pos h64]
      go_enter Tryd.func45, Tryd.ntmps45
      go_wp2_with (first
        | (go_at_call 65; refine (HW.out _).mono ?_; rintro e w1 ⟨rfl, hM⟩
           have hM1 := ((Mod.refl (fun _ => False) w).alloc (.cells #[.string p, .slice ad ts.length c] 35)).trans hM
           have hc0 := hM.cell (p := ⟨w.heap.size, 1, none⟩) (v := .slice ad ts.length c) (cell_new rfl) id
           have HM1 := Lib.hid hM1; clear hM hM1))
      go_ret
      exact ⟨rfl, HM1.out⟩
    · rw [if_neg h64]
      obtain ⟨v, hv⟩ : ∃ v, mayTs head ts = v := ⟨_, rfl⟩
      rw [hv]
      have HV := Lib.hid hv; clear hv
      go_enter Tryd.func45, Tryd.ntmps45
      go_wp2_with (first
        | (go_at_call 65; refine (HW.out _).mono ?_; rintro e w1 ⟨rfl, hM⟩
           have hM1 := ((Mod.refl (fun _ => False) w).alloc (.cells #[.string p, .slice ad ts.length c] 35)).trans hM
           have hc0 := hM.cell (p := ⟨w.heap.size, 1, none⟩) (v := .slice ad ts.length c) (cell_new rfl) id
           have HM1 := Lib.hid hM1; clear hM hM1))
      go_loopw [1, 22] (fun hv iv wr => ∃ (k : Nat) (h : Bool), hv = .bool h ∧ iv = .int .i64 k ∧ k ≤ ts.length ∧ Hid (mayTs h (ts.drop k) = v) ∧ Hid (Mod (fun _ => False) w wr)) (fun _ iv _ => ts.length - (intOf iv).toNat)
      case atStart => exact ⟨0, head, rfl, rfl, Nat.zero_le _, HV, HM1⟩
      case round =>
        obtain ⟨k, h, rfl, rfl, hk, hV, hM⟩ := hrel
        clear HV HM1 hc0
        by_cases hlt : k < ts.length
        · obtain ⟨b, o, rfl, x0, x1⟩ := rd_cell2 (HR.out.mod hM.out (fun _ _ => id)) hlt
          have HT := Lib.hid (fun w => mayTerm_any ts[k] w (HS.out _ (List.getElem_mem hlt)))
          have hd := hV.out
          rw [List.drop_eq_getElem_cons hlt] at hd
          unfold tmV at HT
          clear hV
          by_cases hk4 : 4 ≤ ts[k].kind ∧ ts[k].kind ≤ 7
          · rw [mayTs_agg hk4.1 hk4.2] at hd
            generalize mayTm ts[k] = mt at *
            generalize ts[k].kind = tk at *
            generalize ts[k].text = tx at *
            obtain ⟨hk4, hk7⟩ := hk4
            have HD := Lib.hid hd; clear hd
            cases h with
            | false =>
              have HV2 : Hid (80 = v) := by have := HD.out; rwa [if_neg (by simp)] at this
              go_wp2
              go_ret
              exact ⟨ret_i HV2.out, hM.out.alloc _⟩
            | true =>
              have HD2 : Hid ((if mt ≠ 0 then mt else mayTs false (ts.drop (k + 1))) = v) := by have := HD.out; rwa [if_pos rfl] at this
              clear HD
              by_cases hm : mt = 0
              · have HV2 := Lib.hid (by have := HD2.out; rwa [if_neg (by simpa using hm)] at this)
                subst hm
                go_wp2_with (first
                  | (go_at_call 66; refine (HT.out _).mono ?_; rintro e w' ⟨rfl, hM2⟩; have HM2 := Lib.hid hM2; clear hM2))
                go_roundw
                case rel => exact ⟨k + 1, false, rfl, by go_num, hlt, HV2, Lib.hid ((hM.out.alloc _).trans HM2.out)⟩
                case measure => simp [intOf]; omega
              · have hmb : (mt != 0) = true := by simpa using hm
                have HV2 := Lib.hid (by have := HD2.out; rwa [if_pos hm] at this)
                clear hm
                go_wp2_with (first
                  | (go_at_call 66; refine (HT.out _).mono ?_; rintro e w' ⟨rfl, hM2⟩; have HM2 := Lib.hid hM2; clear hM2))
                go_ret
                exact ⟨ret_i HV2.out, (hM.out.alloc _).trans HM2.out⟩
          · rw [mayTs_other hk4] at hd
            generalize mayTm ts[k] = mt at *
            generalize ts[k].kind = tk at *
            generalize ts[k].text = tx at *
            have HD2 := Lib.hid hd; clear hd
            have hk4 : tk < 4 ∨ 7 < tk := by omega
            rcases hk4 with hk4 | hk4
            all_goals
              by_cases hm : mt = 0
              · have HV2 := Lib.hid (by have := HD2.out; rwa [if_neg (by simpa using hm)] at this)
                subst hm
                go_wp2_with (first
                  | (go_at_call 66; refine (HT.out _).mono ?_; rintro e w' ⟨rfl, hM2⟩; have HM2 := Lib.hid hM2; clear hM2))
                go_roundw
                case rel => exact ⟨k + 1, h, rfl, by go_num, hlt, HV2, Lib.hid ((hM.out.alloc _).trans HM2.out)⟩
                case measure => simp [intOf]; omega
              · have hmb : (mt != 0) = true := by simpa using hm
                have HV2 := Lib.hid (by have := HD2.out; rwa [if_pos hm] at this)
                clear hm
                go_wp2_with (first
                  | (go_at_call 66; refine (HT.out _).mono ?_; rintro e w' ⟨rfl, hM2⟩; have HM2 := Lib.hid hM2; clear hM2))
                go_ret
                exact ⟨ret_i HV2.out, (hM.out.alloc _).trans HM2.out⟩
        · obtain rfl : k = ts.length := by omega
          have HV2 : Hid (0 = v) := by have := hV.out; rwa [List.drop_length, mayTs] at this
          go_wp2
          go_ret
          exact ⟨ret_i HV2.out, hM.out⟩
  · rw [if_pos hx]
    have hxb : (x != 0) = true := by simpa using hx
    go_enter Tryd.func45, Tryd.ntmps45
    go_wp2_with (first
      | (go_at_call 65; refine (HW.out _).mono ?_; rintro e w' ⟨rfl, hM⟩; have HM := Lib.hid hM; clear hM))
    go_ret
    exact ⟨rfl, ((Mod.refl _ _).alloc _).trans HM.out⟩
end Go.Proofs.YtphgglnkdfndiaaDoor
/-
  Literals, rules, programs that may be: package syntax's walks.
-/
namespace Go.Proofs.YtphgglnkdfndiaaDoor
open Go Go.RowKit Go.Mine
set_option linter.unusedVariables false
set_option maxHeartbeats 4000000
set_option maxRecDepth 100000

theorem tm_eql (a b : Int) (s t : ByteArray) (w : World) : (binOp .eql 42 (.agg #[.int .i64 a, .string s]) (.agg #[.int .i64 b, .string t])).run Tryd.prog w = .ok (.bool (a == b && s.toList == t.toList)) w := by
  have u3 := Tryd.underlying3
  have hS : Tryd.prog.underlying 42 = some (.struct (Tryd.prog.fieldsOf 42)) := by kernel_rfl
  have hp : Tryd.prog.stoodInHeld 42 = false := by kernel_rfl
  rw [run_eql_struct, show (10000 : Nat) = 9999 + 1 from rfl, run_equalIn_agg w 9999 42 _ _ hS hp]
  simp only [Program.fieldsOf, Tryd.underlying42]
  go_simp
  by_cases h1 : a = b <;> by_cases h2 : s.toList = t.toList <;> simp [h1, h2]
def zeroT (k : Int) (s : ByteArray) : Bool := k == 0 && s.toList == []
theorem tm_zero (a : Int) (s : ByteArray) (w : World) : (binOp .eql 42 (.agg #[.int .i64 a, .string s]) (.agg #[.int .i64 0, .string ⟨#[]⟩])).run Tryd.prog w = .ok (.bool (zeroT a s)) w := by
  rw [tm_eql]
  unfold zeroT
  have : (⟨#[]⟩ : ByteArray).toList = [] := by rw [ByteArray.toList_eq]
  rw [this]
theorem zeroT_iff {k : Int} {s : ByteArray} : zeroT k s = true ↔ k = 0 ∧ s = emptyB := by
  unfold zeroT emptyB
  simp only [Bool.and_eq_true, beq_iff_eq]
  constructor
  · rintro ⟨h1, h2⟩
    refine ⟨h1, ?_⟩
    rw [ByteArray.toList_eq] at h2
    apply ByteArray.ext
    apply Array.ext'
    exact h2
  · rintro ⟨h1, rfl⟩
    exact ⟨h1, by rw [ByteArray.toList_eq]⟩
/-- a literal by Booleans -/
theorem mayLm_b (k : Int) (a : Am) (op : Int) (l r : Tm) (nb bb : Bool) (hn : nb = true ↔ noneL ⟨k, a, op, l, r⟩) (hb : bb = true ↔ bareL ⟨k, a, op, l, r⟩) :
    mayLm ⟨k, a, op, l, r⟩ = if (k = 1 ∨ k = 2) ∧ bb = true then mayAm false a else if k ≠ 3 ∨ nb = false ∨ op < 1 ∨ 4 < op then 80
      else if 4 ≤ l.kind then 80 else if mayTm l ≠ 0 then mayTm l else if 4 ≤ r.kind then 80 else mayTm r := by
  have h2 : (nb = false) ↔ ¬ noneL ⟨k, a, op, l, r⟩ := by rw [← hn]; simp
  unfold mayLm
  simp only [hb, h2]
theorem mayLit_any (l : Lm) (s : Value) (w : World) (hs : SmallLm l) (ht : TsAt w s l.atom.terms) :
    Calls Tryd.prog 46 #[lmV l s] w fun e w' => e = .returned (.int .i64 (mayLm l)) ∧ Mod (fun _ => False) w w' := by
  obtain ⟨k, ⟨p, ts⟩, op, ⟨lk, lt⟩, ⟨rk, rt⟩⟩ := l
  obtain ⟨ha, hls, hrs⟩ := hs
  unfold lmV
  simp only at ha hls hrs ht ⊢
  have HA := Lib.hid (fun w (m : Mod (fun _ => False) _ w) => mayAtom_any false ⟨p, ts⟩ s w ha (ht.mod0 m))
  have HL := Lib.hid (fun w => mayTerm_any ⟨lk, lt⟩ w hls)
  have HR := Lib.hid (fun w => mayTerm_any ⟨rk, rt⟩ w hrs)
  have tz := tm_zero lk lt
  have tzr := tm_zero rk rt
  obtain ⟨ad, c, rfl, hr⟩ := ht
  clear hr
  obtain ⟨nb, hnb⟩ : ∃ nb : Bool, nb = (p.toList.isEmpty && decide (ts.length = 0)) := ⟨_, rfl⟩
  have hn : nb = true ↔ noneL ⟨k, ⟨p, ts⟩, op, ⟨lk, lt⟩, ⟨rk, rt⟩⟩ := by
    rw [hnb]
    unfold noneL emptyB
    simp only [Bool.and_eq_true, decide_eq_true_eq, List.isEmpty_iff, List.length_eq_zero_iff]
    have : p.toList = [] ↔ p = ⟨#[]⟩ := by
      constructor
      · intro h
        rw [ByteArray.toList_eq] at h
        apply ByteArray.ext
        apply Array.ext'
        exact h
      · rintro rfl
        rw [ByteArray.toList_eq]
    rw [this]
  obtain ⟨bb, hbb⟩ : ∃ bb : Bool, bb = (op == 0 && (zeroT lk lt && zeroT rk rt)) := ⟨_, rfl⟩
  have hb : bb = true ↔ bareL ⟨k, ⟨p, ts⟩, op, ⟨lk, lt⟩, ⟨rk, rt⟩⟩ := by
    rw [hbb]
    unfold bareL
    simp only [Bool.and_eq_true, beq_iff_eq, zeroT_iff]
  have HV := mayLm_b k ⟨p, ts⟩ op ⟨lk, lt⟩ ⟨rk, rt⟩ nb bb hn hb
  clear hn hb
  generalize mayLm ⟨k, ⟨p, ts⟩, op, ⟨lk, lt⟩, ⟨rk, rt⟩⟩ = v at *
  have HVV := Lib.hid HV; clear HV
  have HNB := Lib.hid hnb
  have HBB := Lib.hid hbb
  generalize zeroT lk lt = zl at *
  generalize zeroT rk rt = zr at *
  clear hnb hbb
  go_enter Tryd.func46, Tryd.ntmps46
  go_upto_region 1 with fail
  go_cut [3] (fun s3 wx => s3 = .bool nb ∧ wx = w.alloc (.cells #[.int .i64 k, .string p, .slice ad ts.length c, .int .i64 op, .int .i64 lk, .string lt, .int .i64 rk, .string rt] 44))
  case first =>
    by_cases hp : p.toList = []
    · go_wp2_with fail
      go_meet
      case rel => exact ⟨congrArg Value.bool (by rw [HNB.out, hp, Bool.eq_iff_iff]; simp), rfl⟩
    · have hpb : p.toList.isEmpty = false := by
        cases h : p.toList with
        | nil => exact absurd h hp
        | cons => rfl
      go_wp2_with fail
      go_meet
      case rel => exact ⟨congrArg Value.bool (by rw [HNB.out, hpb]; rfl), rfl⟩
  case rest =>
    obtain ⟨rfl, rfl⟩ := hcut
    go_upto_region 2 with fail
    go_cut [4] (fun s4 wx => s4 = .bool bb ∧ wx = w.alloc (.cells #[.int .i64 k, .string p, .slice ad ts.length c, .int .i64 op, .int .i64 lk, .string lt, .int .i64 rk, .string rt] 44))
    case first =>
      by_cases ho : op = 0
      · subst ho
        cases zl with
        | false =>
          go_wp2_with fail
          go_meet
          case rel => exact ⟨congrArg Value.bool (by rw [HBB.out]; rfl), rfl⟩
        | true =>
          go_wp2_with fail
          go_meet
          case rel => exact ⟨congrArg Value.bool (by rw [HBB.out]; rfl), rfl⟩
      · have hob : (op == 0) = false := by simpa using ho
        go_wp2_with fail
        go_meet
        case rel => exact ⟨congrArg Value.bool (by rw [HBB.out, hob]; rfl), rfl⟩
    case rest =>
      obtain ⟨rfl, rfl⟩ := hcut
      have hM0 : Mod (fun _ => False) w (w.alloc (.cells #[.int .i64 k, .string p, .slice ad ts.length c, .int .i64 op, .int .i64 lk, .string lt, .int .i64 rk, .string rt] 44)) := (Mod.refl _ w).alloc _
      have HA2 := Lib.hid (HA.out _ hM0)
      have HM0 := Lib.hid hM0
      clear HA hM0 HNB HBB tz tzr
      simp only at HA2
      by_cases hA : (k = 1 ∨ k = 2) ∧ bb = true
      · have hv := HVV.out
        rw [if_pos hA] at hv
        obtain ⟨hk, rfl⟩ := hA
        clear HVV
        rw [← hv] at HA2
        clear hv
        rcases hk with rfl | rfl
        all_goals
          go_wp2_with (first
            | (go_at_call 45; refine HA2.out.mono ?_; rintro e w' ⟨rfl, hM2⟩; have HM2 := Lib.hid hM2; clear hM2))
          go_ret
          exact ⟨rfl, HM0.out.trans HM2.out⟩
      · have HV2 : Hid (v = if k ≠ 3 ∨ nb = false ∨ op < 1 ∨ 4 < op then 80 else if 4 ≤ lk then 80 else if mayTm ⟨lk, lt⟩ ≠ 0 then mayTm ⟨lk, lt⟩ else if 4 ≤ rk then 80 else mayTm ⟨rk, rt⟩) := by
          have := HVV.out; rwa [if_neg hA] at this
        clear HVV HA2
        by_cases hk3 : k = 3
        · subst hk3
          clear hA
          by_cases hB : nb = false ∨ op < 1 ∨ 4 < op
          · obtain rfl : v = 80 := by have := HV2.out; rwa [if_pos (.inr hB)] at this
            clear HV2
            by_cases hnb : nb = false
            · subst hnb
              clear hB
              go_wp2_with fail
              go_ret
              exact ⟨rfl, HM0.out⟩
            · obtain rfl : nb = true := by simpa using hnb
              have ho : op < 1 ∨ 4 < op := by
                rcases hB with h | h
                · exact absurd h hnb
                · exact h
              clear hB hnb
              rcases ho with ho | ho
              all_goals
                go_wp2_with fail
                go_ret
                exact ⟨rfl, HM0.out⟩
          · obtain rfl : nb = true := by
              cases nb with
              | false => exact absurd (.inl rfl) hB
              | true => rfl
            have ho1 : 1 ≤ op := by
              by_cases h : op < 1
              · exact absurd (.inr (.inl h)) hB
              · omega
            have ho4 : op ≤ 4 := by
              by_cases h : 4 < op
              · exact absurd (.inr (.inr h)) hB
              · omega
            have HV3 : Hid (v = if 4 ≤ lk then 80 else if mayTm ⟨lk, lt⟩ ≠ 0 then mayTm ⟨lk, lt⟩ else if 4 ≤ rk then 80 else mayTm ⟨rk, rt⟩) := by
              have := HV2.out; rwa [if_neg (by rintro (h | h); exact h rfl; exact hB h)] at this
            clear HV2 hB
            unfold tmV at HL HR
            simp only at HL HR
            generalize mayTm ⟨lk, lt⟩ = ml at *
            generalize mayTm ⟨rk, rt⟩ = mr at *
            have i0 : ∀ w, (Instr.index 117 (.agg #[.int .i64 lk, .string lt, .int .i64 rk, .string rt]) (.int .i64 0)).run Tryd.prog w = .ok (.agg #[.int .i64 lk, .string lt]) w := fun _ => by kernel_rfl
            have i1 : ∀ w, (Instr.index 117 (.agg #[.int .i64 lk, .string lt, .int .i64 rk, .string rt]) (.int .i64 1)).run Tryd.prog w = .ok (.agg #[.int .i64 rk, .string rt]) w := fun _ => by kernel_rfl
            go_wp2_with fail
            go_loopw [72] (fun iv wr => ∃ n : Nat, iv = .int .i64 n ∧ n ≤ 2 ∧ Hid (1 ≤ n → lk < 4 ∧ ml = 0) ∧ Hid (2 ≤ n → rk < 4 ∧ mr = 0) ∧ Hid (Mod (fun _ => False) w wr)) (fun iv _ => 2 - (intOf iv).toNat)
            case atStart => exact ⟨0, rfl, by omega, Lib.hid (fun h => by omega), Lib.hid (fun h => by omega), HM0⟩
            case round =>
              obtain ⟨n, rfl, hn, h1, h2, hM⟩ := hrel
              by_cases hn0 : n = 0
              · subst hn0
                rw [show ((0 : Nat) : Int) = 0 from rfl]
                by_cases h4 : 4 ≤ lk
                · obtain rfl : v = 80 := by have := HV3.out; rwa [if_pos h4] at this
                  clear HV3 h1 h2
                  go_wp2_with fail
                  go_ret
                  exact ⟨rfl, hM.out.alloc _⟩
                · by_cases hm : ml = 0
                  · have h1' : Hid (1 ≤ 0 + 1 → lk < 4 ∧ ml = 0) := fun _ => ⟨by omega, hm⟩
                    have HR2 := Lib.hid (show ml = 0 from hm)
                    subst hm
                    clear HV3
                    go_wp2_with (first
                      | (go_at_call 66; refine (HL.out _).mono ?_; rintro e w' ⟨rfl, hM2⟩; have HM2 := Lib.hid hM2; clear hM2))
                    go_roundw
                    case rel => exact ⟨1, rfl, by omega, h1', Lib.hid (fun h => by omega), Lib.hid ((hM.out.alloc _).trans HM2.out)⟩
                    case measure => simp [intOf]
                  · have HVV : Hid (ml = v) := by have := HV3.out; rw [if_neg h4, if_pos hm] at this; exact this.symm
                    have hmb : (ml != 0) = true := by simpa using hm
                    clear HV3 hm h1 h2
                    go_wp2_with (first
                      | (go_at_call 66; refine (HL.out _).mono ?_; rintro e w' ⟨rfl, hM2⟩; have HM2 := Lib.hid hM2; clear hM2))
                    go_ret
                    exact ⟨ret_i HVV.out, (hM.out.alloc _).trans HM2.out⟩
              · by_cases hn1 : n = 1
                · subst hn1
                  rw [show ((1 : Nat) : Int) = 1 from rfl]
                  obtain ⟨hl4, hml⟩ := h1.out (Nat.le_refl _)
                  by_cases h4 : 4 ≤ rk
                  · obtain rfl : v = 80 := by have := HV3.out; rwa [if_neg (by omega), if_neg (by simpa using hml), if_pos h4] at this
                    clear HV3 h1 h2 hml
                    go_wp2_with fail
                    go_ret
                    exact ⟨rfl, hM.out.alloc _⟩
                  · have HVV : Hid (mr = v) := by have := HV3.out; rw [if_neg (by omega), if_neg (by simpa using hml), if_neg h4] at this; exact this.symm
                    have H1 := h1
                    clear HV3 hml h1
                    by_cases hm : mr = 0
                    · have h2' : Hid (2 ≤ 2 → rk < 4 ∧ mr = 0) := fun _ => ⟨by omega, hm⟩
                      subst hm
                      go_wp2_with (first
                        | (go_at_call 66; refine (HR.out _).mono ?_; rintro e w' ⟨rfl, hM2⟩; have HM2 := Lib.hid hM2; clear hM2))
                      go_roundw
                      case rel => exact ⟨2, rfl, by omega, Lib.hid (fun _ => H1.out (Nat.le_refl _)), h2', Lib.hid ((hM.out.alloc _).trans HM2.out)⟩
                      case measure => simp [intOf]
                    · have hmb : (mr != 0) = true := by simpa using hm
                      clear hm h2
                      go_wp2_with (first
                        | (go_at_call 66; refine (HR.out _).mono ?_; rintro e w' ⟨rfl, hM2⟩; have HM2 := Lib.hid hM2; clear hM2))
                      go_ret
                      exact ⟨ret_i HVV.out, (hM.out.alloc _).trans HM2.out⟩
                · obtain rfl : n = 2 := by omega
                  rw [show ((2 : Nat) : Int) = 2 from rfl]
                  obtain ⟨hl4, hml⟩ := h1.out (by omega)
                  obtain ⟨hr4, hmr⟩ := h2.out (by omega)
                  have HVV : Hid (0 = v) := by have := HV3.out; rw [if_neg (by omega), if_neg (by simpa using hml), if_neg (by omega), hmr] at this; exact this.symm
                  clear HV3 hml hmr h1 h2
                  go_wp2_with fail
                  go_ret
                  exact ⟨ret_i HVV.out, hM.out⟩
        · obtain rfl : v = 80 := by have := HV2.out; rwa [if_pos (.inl hk3)] at this
          have b3 : (k != 3) = true := by simpa using hk3
          clear HV2
          by_cases hk : k = 1 ∨ k = 2
          · obtain rfl : bb = false := by
              cases bb with
              | false => rfl
              | true => exact absurd ⟨hk, rfl⟩ hA
            clear hA
            rcases hk with rfl | rfl
            all_goals
              go_wp2_with fail
              go_ret
              exact ⟨rfl, HM0.out⟩
          · have b1 : (k == 1) = false := by simpa using fun h => hk (.inl h)
            have b2 : (k == 2) = false := by simpa using fun h => hk (.inr h)
            clear hA hk hk3
            go_wp2_with fail
            go_ret
            exact ⟨rfl, HM0.out⟩
end Go.Proofs.YtphgglnkdfndiaaDoor
/-
  Rules, programs that may be: package syntax's walks.
-/
namespace Go.Proofs.YtphgglnkdfndiaaDoor
open Go Go.RowKit Go.Mine
set_option linter.unusedVariables false
set_option maxHeartbeats 4000000
set_option maxRecDepth 100000

theorem MayRule_any (r : Rm) (s b : Value) (w : World) (hs : SmallRm r) (ht : TsAt w s r.head.terms) (hb : LsAt w b r.body) :
    Calls Tryd.prog 23 #[rmV r s b] w fun e w' => e = .returned (.int .i64 (mayRm r)) ∧ Mod (fun _ => False) w w' := by
  obtain ⟨h, ls⟩ := r
  obtain ⟨hsh, hsl, hss⟩ := hs
  unfold rmV
  simp only at ht hb hsh hsl hss ⊢
  have hM0 := (Mod.refl (fun _ => False) w).alloc (.cells #[.string h.pred, s, b] 38)
  have HA := Lib.hid (mayAtom_any true h s _ hsh (ht.mod0 hM0))
  obtain ⟨v, hv⟩ : ∃ v, v = mayRm ⟨h, ls⟩ := ⟨_, rfl⟩
  rw [← hv]
  unfold mayRm at hv
  simp only at hv
  generalize mayAm true h = x at *
  obtain ⟨ad, c, rfl, hr⟩ := ht
  clear hr
  have HB := Lib.hid hb
  obtain ⟨bd, bc, xs, rfl, hx, hrx, hxt⟩ := hb
  have HR := Lib.hid hrx; have HX := Lib.hid hx; have HXT := Lib.hid hxt
  have HSS := Lib.hid hss
  clear hrx hx hxt hss HB
  have hcc : (w.alloc (.cells #[.string h.pred, .slice ad h.terms.length c, .slice bd ls.length bc] 38)).cell? ⟨w.heap.size, 2, none⟩ = some (.slice bd ls.length bc) := cell_new rfl
  by_cases hx0 : x = 0
  · subst hx0
    rw [if_neg (by simp)] at hv
    by_cases h64 : 64 < ls.length
    · rw [if_pos h64] at hv
      subst hv
      go_enter Tryd.func23, Tryd.ntmps23
      go_wp2_with (first
        | (go_at_call 45; refine (HA.out).mono ?_; rintro e w1 ⟨rfl, hM⟩
           have hM1 := hM0.trans hM
           have hc2 := hM.cell hcc id
           have HM1 := Lib.hid hM1; clear hM hM1))
      go_ret
      exact ⟨rfl, HM1.out⟩
    · rw [if_neg h64] at hv
      have HV : Hid (mayLs (ls.drop 0) = v) := hv.symm
      clear hv
      go_enter Tryd.func23, Tryd.ntmps23
      go_wp2_with (first
        | (go_at_call 45; refine (HA.out).mono ?_; rintro e w1 ⟨rfl, hM⟩
           have hM1 := hM0.trans hM
           have hc2 := hM.cell hcc id
           have HM1 := Lib.hid hM1; clear hM hM1))
      clear hcc hM0 HA
      go_loopw [20] (fun iv wr => ∃ (k : Nat), iv = .int .i64 k ∧ k ≤ ls.length ∧ Hid (mayLs (ls.drop k) = v) ∧ Hid (Mod (fun _ => False) w wr)) (fun iv _ => ls.length - (intOf iv).toNat)
      case atStart => exact ⟨0, rfl, Nat.zero_le _, HV, HM1⟩
      case round =>
        obtain ⟨k, rfl, hk, hV, hM⟩ := hrel
        clear HV HM1 hc2
        by_cases hlt : k < ls.length
        · obtain ⟨sk, hx, hmem⟩ := xs_get HX.out hlt
          obtain ⟨b, o, rfl, x0, x1, x2, x3, x4, x5, x6, x7⟩ := rd_cell8 (HR.out.mod hM.out (fun _ _ => id)) hx
          have HT := Lib.hid (fun w' (m : Mod (fun _ => False) w w') => mayLit_any ls[k] sk w' (HSS.out _ (List.getElem_mem hlt)) ((HXT.out _ hmem).mod0 m))
          obtain ⟨sa, sc, hsk, _⟩ := HXT.out _ hmem
          simp only at hsk
          subst hsk
          have hd := hV.out
          rw [List.drop_eq_getElem_cons hlt, mayLs] at hd
          have HD := Lib.hid hd
          unfold lmV at HT
          clear hV hx hmem hd
          simp only at x2 HT
          generalize mayLm ls[k] = mt at *
          generalize ls[k] = l at *
          obtain ⟨lk, ⟨lp, lts⟩, lo, ⟨ll1, ll2⟩, ⟨lr1, lr2⟩⟩ := l
          simp only at *
          by_cases hm : mt = 0
          · have HV2 : Hid (mayLs (ls.drop (k + 1)) = v) := by
              have := HD.out; rwa [if_neg (by simpa using hm)] at this
            subst hm
            go_wp2_with (first
              | (go_at_call 46; refine (HT.out _ (hM.out.alloc _)).mono ?_; rintro e w' ⟨rfl, hM2⟩; have HM2 := Lib.hid hM2; clear hM2))
            go_roundw
            case rel => exact ⟨k + 1, by go_num, hlt, HV2, Lib.hid ((hM.out.alloc _).trans HM2.out)⟩
            case measure => simp [intOf]; omega
          · have HV2 : Hid (mt = v) := by have := HD.out; rwa [if_pos hm] at this
            have hmb : (mt != 0) = true := by simpa using hm
            clear hm
            go_wp2_with (first
              | (go_at_call 46; refine (HT.out _ (hM.out.alloc _)).mono ?_; rintro e w' ⟨rfl, hM2⟩; have HM2 := Lib.hid hM2; clear hM2))
            go_ret
            exact ⟨ret_i HV2.out, (hM.out.alloc _).trans HM2.out⟩
        · obtain rfl : k = ls.length := by omega
          have HV2 : Hid (0 = v) := by have := hV.out; rwa [List.drop_length, mayLs] at this
          go_wp2
          go_ret
          exact ⟨ret_i HV2.out, hM.out⟩
  · rw [if_pos hx0] at hv
    subst hv
    have hxb : (v != 0) = true := by simpa using hx0
    clear hx0
    go_enter Tryd.func23, Tryd.ntmps23
    go_wp2_with (first
      | (go_at_call 45; refine (HA.out).mono ?_; rintro e w1 ⟨rfl, hM⟩
         have hM1 := hM0.trans hM
         have hc2 := hM.cell hcc id
         have HM1 := Lib.hid hM1; clear hM hM1))
    go_ret
    exact ⟨rfl, HM1.out⟩
theorem xs_get3 {xs : List (Rm × Value × Value)} {ls : List Rm} (h : xs.map Prod.fst = ls) {i : Nat} (hi : i < ls.length) : ∃ s b, xs[i]? = some (ls[i], s, b) ∧ (ls[i], s, b) ∈ xs := by
  obtain ⟨⟨s, b⟩, h1, h2⟩ := xs_get h hi
  exact ⟨s, b, h1, h2⟩
theorem May_any (rs : List Rm) (v0 : Value) (w : World) (hs : SmallPm rs) (hp : RsAt w v0 rs) :
    Calls Tryd.prog 17 #[.agg #[v0]] w fun e w' => e = .returned (.int .i64 (mayPm rs)) ∧ Mod (fun _ => False) w w' := by
  obtain ⟨hsl, hss⟩ := hs
  obtain ⟨v, hv⟩ : ∃ v, v = mayPm rs := ⟨_, rfl⟩
  rw [← hv]
  unfold mayPm at hv
  obtain ⟨ad, c, xs, rfl, hx, hrx, hxt⟩ := hp
  have HR := Lib.hid hrx; have HX := Lib.hid hx; have HXT := Lib.hid hxt
  have HSS := Lib.hid hss
  clear hrx hx hxt hss
  by_cases h64 : 1024 < rs.length
  · rw [if_pos h64] at hv
    subst hv
    go_enter Tryd.func17, Tryd.ntmps17
    go_wp2_with fail
    go_ret
    exact ⟨rfl, (Mod.refl _ w).alloc _⟩
  · rw [if_neg h64] at hv
    have HV : Hid (mayRs (rs.drop 0) = v) := hv.symm
    clear hv
    go_enter Tryd.func17, Tryd.ntmps17
    go_wp2_with fail
    obtain ⟨ls, hls⟩ : ∃ ls, ls = rs := ⟨_, rfl⟩
    rw [← hls] at HV HX HSS hsl h64 ⊢
    clear hls
    go_loopw [13] (fun iv wr => ∃ (k : Nat), iv = .int .i64 k ∧ k ≤ ls.length ∧ Hid (mayRs (ls.drop k) = v) ∧ Hid (Mod (fun _ => False) w wr)) (fun iv _ => ls.length - (intOf iv).toNat)
    case atStart => exact ⟨0, rfl, Nat.zero_le _, HV, Lib.hid ((Mod.refl _ w).alloc _)⟩
    case round =>
      obtain ⟨k, rfl, hk, hV, hM⟩ := hrel
      clear HV
      by_cases hlt : k < ls.length
      · obtain ⟨sk, bk, hx, hmem⟩ := xs_get3 HX.out hlt
        obtain ⟨b, o, rfl, x0, x1, x2⟩ := rd_cellR (HR.out.mod hM.out (fun _ _ => id)) hx
        have HT := Lib.hid (fun w' (m : Mod (fun _ => False) w w') => MayRule_any ls[k] sk bk w' (HSS.out _ (List.getElem_mem hlt)) ((HXT.out _ hmem).1.mod0 m) ((HXT.out _ hmem).2.mod0 m))
        obtain ⟨⟨sa, sc, hsk, _⟩, ⟨ba, bc, _, hbk, _⟩⟩ := HXT.out _ hmem
        simp only at hsk hbk
        subst hsk hbk
        have hd := hV.out
        rw [List.drop_eq_getElem_cons hlt, mayRs] at hd
        have HD := Lib.hid hd
        unfold rmV at HT
        clear hV hx hmem hd
        simp only at x1 x2 HT
        generalize mayRm ls[k] = mt at *
        generalize ls[k] = l at *
        obtain ⟨⟨lp, lts⟩, lb⟩ := l
        simp only at *
        by_cases hm : mt = 0
        · have HV2 : Hid (mayRs (ls.drop (k + 1)) = v) := by
            have := HD.out; rwa [if_neg (by simpa using hm)] at this
          subst hm
          go_wp2_with (first
            | (go_at_call 23; refine (HT.out _ (hM.out.alloc _)).mono ?_; rintro e w' ⟨rfl, hM2⟩; have HM2 := Lib.hid hM2; clear hM2))
          go_roundw
          case rel => exact ⟨k + 1, by go_num, hlt, HV2, Lib.hid ((hM.out.alloc _).trans HM2.out)⟩
          case measure => simp [intOf]; omega
        · have HV2 : Hid (mt = v) := by have := HD.out; rwa [if_pos hm] at this
          have hmb : (mt != 0) = true := by simpa using hm
          clear hm
          go_wp2_with (first
            | (go_at_call 23; refine (HT.out _ (hM.out.alloc _)).mono ?_; rintro e w' ⟨rfl, hM2⟩; have HM2 := Lib.hid hM2; clear hM2))
          go_ret
          exact ⟨ret_i HV2.out, (hM.out.alloc _).trans HM2.out⟩
      · obtain rfl : k = ls.length := by omega
        have HV2 : Hid (0 = v) := by have := hV.out; rwa [List.drop_length, mayRs] at this
        go_wp2
        go_ret
        exact ⟨ret_i HV2.out, hM.out⟩
end Go.Proofs.YtphgglnkdfndiaaDoor
