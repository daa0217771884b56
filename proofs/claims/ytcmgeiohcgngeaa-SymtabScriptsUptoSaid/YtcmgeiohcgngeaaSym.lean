import Derived.Test.YtcmgeiohcgngeaaRefPage
namespace Go.Proofs.Ytcmgeiohcgngeaa
open Go Go.RowKit Go.Mine
set_option maxHeartbeats 400000
set_option maxRecDepth 100000
set_option linter.unusedVariables false

theorem texts_any (a1 a2 : Option Addr) (c1 c2 : Nat) (xs ys : List ByteArray) (w : World)
   (ha : Rd w a1 (sts xs)) (hb : Rd w a2 (sts ys)) (hn : xs.length < 2^60) (hn2 : ys.length < 2^60) :
   Calls Try.prog 39 #[.slice a1 xs.length c1, .slice a2 ys.length c2] w fun e w' =>
     e = .returned (.bool (decide (xs = ys))) ∧ Mod (fun _ => False) w w' := by
  have HA := Lib.hid ha; clear ha
  have HB := Lib.hid hb; clear hb
  by_cases hl : xs.length = ys.length
  · rw [← hl]
    have HL := Lib.hid hl; clear hl
    go_enter Try.func39, Try.ntmps39
    go_wp2
    go_loopw [5] (fun i wr => ∃ k : Nat, k ≤ xs.length ∧ i = .int .i64 k ∧ Hid (Mod (fun _ => False) w wr) ∧ Hid (xs.take k = ys.take k)) (fun i _ => xs.length - (intOf i).toNat)
    case atStart => exact ⟨0, by omega, rfl, Mod.refl _ w, by simp [Hid]⟩
    case round =>
      obtain ⟨k, hk, rfl, hM, hj⟩ := hrel
      by_cases hlt : k < xs.length
      · have hlt2 : k < ys.length := by have := HL.out; omega
        obtain ⟨b1, o1, rfl, h1⟩ := (HA.out.mod hM.out (fun _ _ => id)) k (.string xs[k]) (by simp [sts, hlt])
        obtain ⟨b2, o2, rfl, h2⟩ := (HB.out.mod hM.out (fun _ _ => id)) k (.string ys[k]) (by simp [sts, hlt2])
        generalize hs : xs[k] = s at h1
        generalize ht : ys[k] = t at h2
        have Hs := Lib.hid hs; clear hs
        have Ht := Lib.hid ht; clear ht
        by_cases heq : s = t
        · subst heq
          go_wp2
          go_quiet (fail)
          go_wp2
          go_roundw
          case rel => exact ⟨k+1, hlt, by go_num, hM.out.drewN _, by
            unfold Hid; rw [List.take_succ_eq_append_getElem hlt, List.take_succ_eq_append_getElem hlt2, hj.out, Hs.out, Ht.out]⟩
          case measure => simp [intOf]; omega
        · have hne : (s.toList == t.toList) = false := by rw [baEq]; simpa using heq
          have HEQ := Lib.hid heq; clear heq
          go_wp2
          go_quiet (fail)
          go_wp2
          go_ret
          have hd : decide (xs = ys) = false := by
            simp only [decide_eq_false_iff_not]
            intro e; subst e; exact HEQ.out (Hs.out.symm.trans Ht.out)
          exact ⟨by rw [hd]; rfl, hM.out.drewN _⟩
      · obtain rfl : k = xs.length := by omega
        go_wp2
        go_ret
        have hd : decide (xs = ys) = true := by
          have := hj.out
          have hl := HL.out
          rw [List.take_length] at this
          have e2 : ys.take xs.length = ys := List.take_of_length_le (by omega)
          rw [e2] at this
          simpa using this
        exact ⟨by rw [hd]; rfl, hM.out⟩
  · have hd : decide (xs = ys) = false := by
      simp only [decide_eq_false_iff_not]
      intro e; subst e; exact hl rfl
    rw [hd]
    go_enter Try.func39, Try.ntmps39
    go_wp2
    go_ret
    exact ⟨rfl, Mod.refl _ w⟩

theorem ti22 : TI Try.prog 30 9 1 16 := TI.mk' (z := .string ByteArray.empty) (by kernel_rfl) (by kernel_rfl) rfl (by omega)
def markS : ByteArray := ⟨#[109, 97, 114, 107]⟩
theorem lent_any (a : Option Addr) (c : Nat) (l : List ByteArray) (w : World) (hr : Rd w a (sts l)) (hn : l.length < 2^40) :
    Calls Try.prog 16 #[.slice a l.length c] w fun e w' => ∃ g c', e = .returned (.slice (some ⟨g, 0, none⟩) l.length c') ∧ w.heap.size ≤ g ∧ l.length + 1 ≤ c' ∧
      Own w' 9 1 (some ⟨g, 0, none⟩) (l.length + 1) c' (sts (l ++ [markS])) ∧ Mod (fun _ => False) w w' := by
  have HR := Lib.hid hr; clear hr
  go_enter Try.func16, Try.ntmps16
  go_wp2_with (first
    | (at_builtin; refine wpL_append0 rfl (.tmp 4) (.tmp 5) 30 30 rfl ti22 rfl rfl (Src.ofRd ti22.ht l.length c HR.out (by simp) (sts_one l)) (by omega) (by unfold maxLen; omega) ?_; intro a2 c2 w2 hO2 hM2 hF2 _
       have HO2 := Lib.hid hO2; have HM2 := Lib.hid hM2; have HF2 := Lib.hid hF2; clear hO2 hM2 hF2)
    | (at_builtin; refine wpL_appendN (us := [_]) rfl (.tmp 6) (.tmp 7) 30 rfl ti22 rfl HO2.out rfl rfl rfl (by omega) (by unfold maxLen; omega) ?_; intro a3 c3 w3 hO3 hG3 _
       obtain ⟨g3, rfl⟩ := hO3.atHead (by omega)
       have hc3 : l.length + 1 ≤ c3 := by
         obtain ⟨_, _, _, _, h, _⟩ := hO3.2.resolve_left (by simp)
         exact h
       have HO3 := Lib.hid hO3; have HG3 := Lib.hid hG3; clear hO3 hG3))
  go_ret
  refine ⟨g3, c3, rfl, ?_, hc3, ?_, HM2.out.step HG3.out.mod (fun i hi hs => by have := HF2.out i hs; omega)⟩
  · rcases HG3.out.pos with e | ⟨b, e, hb⟩
    · exact HF2.out g3 (by rw [← e]; rfl)
    · simp at e; have := HM2.out.size; omega
  · have := HO3.out
    rw [sts_append]; exact this

theorem kept_true (g c1 : Nat) (a2 : Option Addr) (c2 : Nat) (l : List ByteArray) (w : World) (hO : Own w 9 1 (some ⟨g, 0, none⟩) (l.length + 1) c1 (sts (l ++ [markS]))) (hr : Rd w a2 (sts l)) (hn : l.length < 2^40) (hc1 : l.length + 1 ≤ c1) :
    Calls Try.prog 19 #[.slice (some ⟨g, 0, none⟩) l.length c1, .slice a2 l.length c2] w fun e w' => e = .returned (.bool true) ∧ Mod (fun _ => False) w w' := by
  have HO := Lib.hid hO; have HR := Lib.hid hr; clear hO hr
  have h1 : Rd w (some ⟨g, 0, none⟩) (sts l) := by
    have := HO.out.rd.take l.length
    rw [sts_append, List.take_left' (by simp)] at this
    exact this
  have H1 := Lib.hid h1; clear h1
  have hcell : w.cell? ⟨g, l.length, none⟩ = some (.string markS) := by
    obtain ⟨b, o, e, hc⟩ := HO.out.rd l.length (.string markS) (by simp [sts])
    cases e
    simpa using hc
  go_enter Try.func19, Try.ntmps19
  go_wp2_with (go_at_call 39; refine (texts_any _ _ c1 c2 l l _ H1.out HR.out (by omega) (by omega)).mono ?_; rintro e w2 ⟨rfl, hM2⟩; have hc2 := hM2.cell hcell id; have HM2 := Lib.hid hM2; clear hM2)
  go_ret
  exact ⟨ret_bool (by rw [ByteArray.toList_eq]; rfl), HM2.out⟩

theorem conv24 (a : Option Addr) (l : List UInt8) (c : Nat) (w : World) (h : Rd w a (bts l)) : (convert 52 9 (.slice a l.length c)).run Try.prog w = .ok (.string ⟨l.toArray⟩) w :=
  run_bytes_str (e := 5) (by kernel_rfl) (by kernel_rfl) (by kernel_rfl) c h

/-- the texts as they grow: turn by turn -/
def xS : ByteArray := ⟨#[120]⟩
end Go.Proofs.Ytcmgeiohcgngeaa
