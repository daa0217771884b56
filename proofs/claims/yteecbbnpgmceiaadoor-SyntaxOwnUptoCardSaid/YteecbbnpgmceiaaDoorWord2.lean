import Derived.Test.YteecbbnpgmceiaaDoorWord
namespace Go.Proofs.YteecbbnpgmceiaaDoor
open Go Go.RowKit Go.Mine
set_option maxHeartbeats 400000
set_option maxRecDepth 100000
set_option linter.unusedVariables false

theorem End.go {s : ByteArray} {pos n e : Nat} (h : End s pos e) (hlt : pos < s.size) (hp : partL s pos = n) (hn : 1 ≤ n) : End s (pos + n) e := by
  subst hp
  exact h.step hlt (by omega)
theorem End.mk0 (s : ByteArray) : End s 0 (endL s s.size 0) := ⟨s.size, by omega, rfl⟩
theorem ret_ii {a b c d : Int} (h1 : a = b) (h2 : c = d) : Ending.returned (.tuple #[.int .i64 a, .int .i64 c]) = .returned (.tuple #[.int .i64 b, .int .i64 d]) := by rw [h1, h2]
theorem iter_mod (w : World) (s : ByteArray) (pos : Nat) : Mod (fun _ => False) w (w.iter s pos) := (Mod.refl _ w).alloc _
theorem wordL_no {s : ByteArray} {at_ : Nat} (h : kindL s at_ = 0) : wordL s at_ = (0, at_) := by unfold wordL; rw [if_pos h]
theorem wordL_yes {s : ByteArray} {at_ : Nat} (h : kindL s at_ ≠ 0) : wordL s at_ = (kindL s at_, endL s s.size at_) := by unfold wordL; rw [if_neg h]

theorem lexWord_any (s : ByteArray) (w : World) (hs : s.size < 2 ^ 40) :
    Calls Tryd.prog 149 #[.string s] w fun e w' => e = .returned (.tuple #[.int .i64 (wordL s 0).1, .int .i64 (wordL s 0).2]) ∧ Mod (fun _ => False) w w' := by
  go_enter Tryd.func149, Tryd.ntmps149
  go_wp2
  go_loopw [4] (fun kd wr => ∃ (pos : Nat), wr = w.iter s pos ∧ pos ≤ s.size ∧ ((pos = 0 ∧ kd = .int .i64 0) ∨ (0 < pos ∧ kd = .int .i64 (kindL s 0) ∧ Hid (kindL s 0 ≠ 0 ∧ End s pos (endL s s.size 0))))) (fun _ wr => s.size - wr.iterPos w.heap.size)
  case atStart => exact ⟨0, rfl, by omega, .inl ⟨rfl, rfl⟩⟩
  case round =>
    obtain ⟨pos, rfl, hpos, hrel⟩ := hrel
    by_cases hlt : pos < s.size
    · have hnx := fun ty => run_next_any (P := Tryd.prog) w s pos ty hlt
      have hwd := decode_width s pos hlt
      have hr := decode_le s pos
      have hpt : partL s pos = if isPart (Utf8.decode s pos).1 = true then (Utf8.decode s pos).2 else 0 := by unfold partL; simp [hlt]
      have hkd : kindL s pos = kindR (Utf8.decode s pos).1 := by unfold kindL; rw [if_pos hlt]
      generalize Utf8.decode s pos = g at *
      obtain ⟨r, n⟩ := g
      simp only at *
      have HL : Hid (∀ w, Calls Tryd.prog 179 #[.int .i32 r] w fun e w' => e = .returned (.int .i64 (letterL r)) ∧ w = w') := fun w => letter_any r w hr
      have HD : Hid (∀ w, Calls Tryd.prog 180 #[.int .i32 r] w fun e w' => e = .returned (.bool (digitL r)) ∧ w = w') := fun w => digit_any r w hr
      have HK := Lib.hid (show kindR r = 0 ↔ isPart r = false from kindR_part r)
      unfold kindR isPart at *
      generalize letterL r = lv at *
      generalize digitL r = d at *
      have HPT := Lib.hid hpt; have HKD := Lib.hid hkd; clear hpt hkd
      rcases hrel with ⟨rfl, rfl⟩ | ⟨hp0, rfl, hE⟩
      · by_cases hlv : lv = 0
        · subst hlv
          cases d
          · by_cases h95 : r = 95
            · subst h95
              have h1 : kindL s 0 = 2 := by rw [HKD.out]; simp
              have h2 : partL s 0 = n := by rw [HPT.out]; simp
              have H1 := Lib.hid h1; have H2 := Lib.hid h2; clear h1 h2
              go_wp2_with (first
                | (go_at_call 179; refine (HL.out _).mono ?_; rintro e w' ⟨rfl, rfl⟩)
                | (go_at_call 180; refine (HD.out _).mono ?_; rintro e w' ⟨rfl, rfl⟩))
              go_roundw
              case rel => exact ⟨0 + n, by first | rfl | rw [Nat.zero_add], by omega, .inr ⟨by omega, by rw [H1.out]; rfl, Lib.hid ⟨by rw [H1.out]; decide, (End.mk0 s).go hlt H2.out hwd.1⟩⟩⟩
              case measure => simp [World.iterPos_iter]; omega
            · have h95b : ((r : Int) == 95) = false := by simp; omega
              have h1 : kindL s 0 = 0 := by rw [HKD.out]; simp [h95]
              have H1 := Lib.hid h1; clear h1 h95
              go_wp2_with (first
                | (go_at_call 179; refine (HL.out _).mono ?_; rintro e w' ⟨rfl, rfl⟩)
                | (go_at_call 180; refine (HD.out _).mono ?_; rintro e w' ⟨rfl, rfl⟩))
              go_ret2
              rw [wordL_no H1.out]
              exact ⟨rfl, iter_mod _ _ _⟩
          · have h1 : kindL s 0 = 1 := by rw [HKD.out]; simp
            have h2 : partL s 0 = n := by rw [HPT.out]; simp
            have H1 := Lib.hid h1; have H2 := Lib.hid h2; clear h1 h2
            go_wp2_with (first
              | (go_at_call 179; refine (HL.out _).mono ?_; rintro e w' ⟨rfl, rfl⟩)
              | (go_at_call 180; refine (HD.out _).mono ?_; rintro e w' ⟨rfl, rfl⟩))
            go_roundw
            case rel => exact ⟨0 + n, by first | rfl | rw [Nat.zero_add], by omega, .inr ⟨by omega, by rw [H1.out]; rfl, Lib.hid ⟨by rw [H1.out]; decide, (End.mk0 s).go hlt H2.out hwd.1⟩⟩⟩
            case measure => simp [World.iterPos_iter]; omega
        · have hlb : ((lv : Int) != 0) = true := by simp; omega
          have h1 : kindL s 0 = lv := by rw [HKD.out, if_pos hlv]
          have h2 : partL s 0 = n := by rw [HPT.out]; simp [hlv]
          have HLV := Lib.hid hlv; have H1 := Lib.hid h1; have H2 := Lib.hid h2; clear hlv h1 h2
          go_wp2_with (first
            | (go_at_call 179; refine (HL.out _).mono ?_; rintro e w' ⟨rfl, rfl⟩)
            | (go_at_call 180; refine (HD.out _).mono ?_; rintro e w' ⟨rfl, rfl⟩))
          go_roundw
          case rel => exact ⟨0 + n, by first | rfl | rw [Nat.zero_add], by omega, .inr ⟨by omega, by rw [H1.out], Lib.hid ⟨by rw [H1.out]; exact HLV.out, (End.mk0 s).go hlt H2.out hwd.1⟩⟩⟩
          case measure => simp [World.iterPos_iter]; omega
      · by_cases hlv : lv = 0
        · subst hlv
          cases d
          · by_cases h95 : r = 95
            · subst h95
              have h2 : partL s pos = n := by rw [HPT.out]; simp
              have H2 := Lib.hid h2; clear h2
              go_wp2_with (first
                | (go_at_call 179; refine (HL.out _).mono ?_; rintro e w' ⟨rfl, rfl⟩)
                | (go_at_call 180; refine (HD.out _).mono ?_; rintro e w' ⟨rfl, rfl⟩))
              go_roundw
              case rel => exact ⟨pos + n, by first | rfl | rw [Nat.zero_add], by omega, .inr ⟨by omega, rfl, Lib.hid ⟨hE.out.1, hE.out.2.go hlt H2.out hwd.1⟩⟩⟩
              case measure => simp [World.iterPos_iter]; omega
            · have h95b : ((r : Int) != 95) = true := by simp; omega
              have h2 : partL s pos = 0 := by rw [HPT.out]; simp [h95]
              have H2 := Lib.hid h2; clear h2 h95
              go_wp2_with (first
                | (go_at_call 179; refine (HL.out _).mono ?_; rintro e w' ⟨rfl, rfl⟩)
                | (go_at_call 180; refine (HD.out _).mono ?_; rintro e w' ⟨rfl, rfl⟩))
              go_ret2
              rw [wordL_yes hE.out.1, hE.out.2.stop H2.out]
              exact ⟨rfl, iter_mod _ _ _⟩
          · have h2 : partL s pos = n := by rw [HPT.out]; simp
            have H2 := Lib.hid h2; clear h2
            go_wp2_with (first
              | (go_at_call 179; refine (HL.out _).mono ?_; rintro e w' ⟨rfl, rfl⟩)
              | (go_at_call 180; refine (HD.out _).mono ?_; rintro e w' ⟨rfl, rfl⟩))
            go_roundw
            case rel => exact ⟨pos + n, by first | rfl | rw [Nat.zero_add], by omega, .inr ⟨by omega, rfl, Lib.hid ⟨hE.out.1, hE.out.2.go hlt H2.out hwd.1⟩⟩⟩
            case measure => simp [World.iterPos_iter]; omega
        · have hlb : ((lv : Int) == 0) = false := by simp; omega
          have h2 : partL s pos = n := by rw [HPT.out]; simp [hlv]
          have HLV := Lib.hid hlv; have H2 := Lib.hid h2; clear hlv h2
          go_wp2_with (first
            | (go_at_call 179; refine (HL.out _).mono ?_; rintro e w' ⟨rfl, rfl⟩)
            | (go_at_call 180; refine (HD.out _).mono ?_; rintro e w' ⟨rfl, rfl⟩))
          go_roundw
          case rel => exact ⟨pos + n, by first | rfl | rw [Nat.zero_add], by omega, .inr ⟨by omega, rfl, Lib.hid ⟨hE.out.1, hE.out.2.go hlt H2.out hwd.1⟩⟩⟩
          case measure => simp [World.iterPos_iter]; omega
    · have hnx := fun ty => run_next_end (P := Tryd.prog) w s pos ty hlt
      rcases hrel with ⟨rfl, rfl⟩ | ⟨hp0, rfl, hE⟩
      · go_wp2
        go_ret2
        rw [wordL_no (by unfold kindL; rw [if_neg hlt])]
        exact ⟨ret_ii rfl (by show (s.size : Int) = 0; omega), iter_mod _ _ _⟩
      · go_wp2
        go_ret2
        rw [wordL_yes hE.out.1, hE.out.2.stop (by unfold partL; rw [if_neg (fun h => hlt h.1)])]
        exact ⟨ret_ii rfl (by show (s.size : Int) = pos; omega), iter_mod _ _ _⟩
end Go.Proofs.YteecbbnpgmceiaaDoor
