import Derived.Test.YteecbbnpgmceiaaDoorRefWord2
namespace Go.Proofs.YteecbbnpgmceiaaDoor
open Go Go.RowKit Go.Mine
set_option maxHeartbeats 4000000
set_option maxRecDepth 100000
set_option linter.unusedVariables false

theorem refWord_any (s : ByteArray) (at_ : Nat) (w : World) (h : at_ ≤ s.size) (hs : s.size < 2 ^ 40) :
    Calls Tryd.prog 185 #[.string s, .int .i64 at_] w fun e w' => e = .returned (.tuple #[.int .i64 (wordL s at_).1, .int .i64 (wordL s at_).2]) ∧ w = w' := by
  by_cases hlt : at_ < s.size
  · have HS := Lib.hid (fun w => small_any s at_ w hlt hs)
    have HG := Lib.hid (fun w => great_any s at_ w hlt hs)
    obtain ⟨n0, hn0⟩ : ∃ n0, s[at_].toNat = n0 := ⟨_, rfl⟩
    have hk : kindL s at_ = if 0 < greatL s at_ ∨ n0 = 95 then 2 else if 0 < smallL s at_ ∨ (48 ≤ n0 ∧ n0 ≤ 57) then 1 else 0 := by subst hn0; exact kind_sum hlt
    have b1 : smallL s at_ ≤ s.size := by have := decode_width s at_ hlt; unfold smallL; split <;> omega
    have b2 : greatL s at_ ≤ s.size := by have := decode_width s at_ hlt; unfold greatL; split <;> omega
    have HLT := Lib.hid hlt
    generalize smallL s at_ = a at *
    generalize greatL s at_ = b at *
    by_cases hb : 0 < b ∨ n0 = 95
    · rw [if_pos hb] at hk
      have HKD := Lib.hid hk; clear hk
      rcases (show 0 < b ∨ b = 0 ∧ n0 = 95 by omega) with h1 | ⟨rfl, rfl⟩
      · clear hb
        rcases (show 0 < a ∨ a = 0 ∧ n0 < 48 ∨ a = 0 ∧ 48 ≤ n0 ∧ n0 ≤ 57 ∨ a = 0 ∧ 57 < n0 by omega) with h2 | ⟨rfl, h2⟩ | ⟨rfl, h2, h3⟩ | ⟨rfl, h2⟩
        · skip
          go_enter Tryd.func185, Tryd.ntmps185
          go_wp2_with (first
            | (go_at_call 198; refine (HS.out _).mono ?_; rintro e w' ⟨rfl, rfl⟩)
            | (go_at_call 199; refine (HG.out _).mono ?_; rintro e w' ⟨rfl, rfl⟩))
          go_loopw [7] (fun e wr => ∃ pos : Nat, e = .int .i64 pos ∧ wr = w ∧ Hid (pos ≤ s.size) ∧ Hid (End s pos (endL s s.size at_))) (fun e _ => s.size - (intOf e).toNat)
          case atStart => exact ⟨at_, rfl, rfl, Nat.le_of_lt HLT.out, s.size, by omega, rfl⟩
          case round =>
            obtain ⟨pos, rfl, rfl, hps, hE⟩ := hrel
            have HP := Lib.hid (part_any s pos wr hps.out hs)
            have hst := Lib.hid (fun h => hE.out.stop h)
            have hgo := Lib.hid (fun n h h2 h3 => hE.out.go (n := n) h h2 h3)
            have hpl := partL_le hps.out
            have hlt : 0 < partL s pos → pos < s.size := fun h => by omega
            obtain ⟨n, hn⟩ : ∃ n, n = partL s pos := ⟨_, rfl⟩
            rw [← hn] at HP hpl
            have HN := Lib.hid hn; have HL := Lib.hid hlt; have HPL := Lib.hid hpl; clear hn hlt
            by_cases h0 : 0 < n
            · go_wp2_with (first
                | (go_at_call 200; refine HP.out.mono ?_; rintro e w' ⟨rfl, rfl⟩))
              go_roundw
              case rel => exact ⟨pos + n, by go_num, by first | trivial | rfl, HPL.out, hgo.out n (HL.out (by rw [← HN.out]; exact h0)) HN.out.symm h0⟩
              case measure => have := HL.out (by rw [← HN.out]; exact h0); simp [intOf]; omega
            · obtain rfl : n = 0 := by omega
              go_wp2_with (first
                | (go_at_call 200; refine HP.out.mono ?_; rintro e w' ⟨rfl, rfl⟩))
              go_ret2
              rw [wordL_yes (by rw [HKD.out]; decide), HKD.out, hst.out HN.out.symm]
              exact ⟨rfl, rfl⟩
        · skip
          go_enter Tryd.func185, Tryd.ntmps185
          go_wp2_with (first
            | (go_at_call 198; refine (HS.out _).mono ?_; rintro e w' ⟨rfl, rfl⟩)
            | (go_at_call 199; refine (HG.out _).mono ?_; rintro e w' ⟨rfl, rfl⟩))
          go_loopw [7] (fun e wr => ∃ pos : Nat, e = .int .i64 pos ∧ wr = w ∧ Hid (pos ≤ s.size) ∧ Hid (End s pos (endL s s.size at_))) (fun e _ => s.size - (intOf e).toNat)
          case atStart => exact ⟨at_, rfl, rfl, Nat.le_of_lt HLT.out, s.size, by omega, rfl⟩
          case round =>
            obtain ⟨pos, rfl, rfl, hps, hE⟩ := hrel
            have HP := Lib.hid (part_any s pos wr hps.out hs)
            have hst := Lib.hid (fun h => hE.out.stop h)
            have hgo := Lib.hid (fun n h h2 h3 => hE.out.go (n := n) h h2 h3)
            have hpl := partL_le hps.out
            have hlt : 0 < partL s pos → pos < s.size := fun h => by omega
            obtain ⟨n, hn⟩ : ∃ n, n = partL s pos := ⟨_, rfl⟩
            rw [← hn] at HP hpl
            have HN := Lib.hid hn; have HL := Lib.hid hlt; have HPL := Lib.hid hpl; clear hn hlt
            by_cases h0 : 0 < n
            · go_wp2_with (first
                | (go_at_call 200; refine HP.out.mono ?_; rintro e w' ⟨rfl, rfl⟩))
              go_roundw
              case rel => exact ⟨pos + n, by go_num, by first | trivial | rfl, HPL.out, hgo.out n (HL.out (by rw [← HN.out]; exact h0)) HN.out.symm h0⟩
              case measure => have := HL.out (by rw [← HN.out]; exact h0); simp [intOf]; omega
            · obtain rfl : n = 0 := by omega
              go_wp2_with (first
                | (go_at_call 200; refine HP.out.mono ?_; rintro e w' ⟨rfl, rfl⟩))
              go_ret2
              rw [wordL_yes (by rw [HKD.out]; decide), HKD.out, hst.out HN.out.symm]
              exact ⟨rfl, rfl⟩
        · skip
          go_enter Tryd.func185, Tryd.ntmps185
          go_wp2_with (first
            | (go_at_call 198; refine (HS.out _).mono ?_; rintro e w' ⟨rfl, rfl⟩)
            | (go_at_call 199; refine (HG.out _).mono ?_; rintro e w' ⟨rfl, rfl⟩))
          go_loopw [7] (fun e wr => ∃ pos : Nat, e = .int .i64 pos ∧ wr = w ∧ Hid (pos ≤ s.size) ∧ Hid (End s pos (endL s s.size at_))) (fun e _ => s.size - (intOf e).toNat)
          case atStart => exact ⟨at_, rfl, rfl, Nat.le_of_lt HLT.out, s.size, by omega, rfl⟩
          case round =>
            obtain ⟨pos, rfl, rfl, hps, hE⟩ := hrel
            have HP := Lib.hid (part_any s pos wr hps.out hs)
            have hst := Lib.hid (fun h => hE.out.stop h)
            have hgo := Lib.hid (fun n h h2 h3 => hE.out.go (n := n) h h2 h3)
            have hpl := partL_le hps.out
            have hlt : 0 < partL s pos → pos < s.size := fun h => by omega
            obtain ⟨n, hn⟩ : ∃ n, n = partL s pos := ⟨_, rfl⟩
            rw [← hn] at HP hpl
            have HN := Lib.hid hn; have HL := Lib.hid hlt; have HPL := Lib.hid hpl; clear hn hlt
            by_cases h0 : 0 < n
            · go_wp2_with (first
                | (go_at_call 200; refine HP.out.mono ?_; rintro e w' ⟨rfl, rfl⟩))
              go_roundw
              case rel => exact ⟨pos + n, by go_num, by first | trivial | rfl, HPL.out, hgo.out n (HL.out (by rw [← HN.out]; exact h0)) HN.out.symm h0⟩
              case measure => have := HL.out (by rw [← HN.out]; exact h0); simp [intOf]; omega
            · obtain rfl : n = 0 := by omega
              go_wp2_with (first
                | (go_at_call 200; refine HP.out.mono ?_; rintro e w' ⟨rfl, rfl⟩))
              go_ret2
              rw [wordL_yes (by rw [HKD.out]; decide), HKD.out, hst.out HN.out.symm]
              exact ⟨rfl, rfl⟩
        · skip
          go_enter Tryd.func185, Tryd.ntmps185
          go_wp2_with (first
            | (go_at_call 198; refine (HS.out _).mono ?_; rintro e w' ⟨rfl, rfl⟩)
            | (go_at_call 199; refine (HG.out _).mono ?_; rintro e w' ⟨rfl, rfl⟩))
          go_loopw [7] (fun e wr => ∃ pos : Nat, e = .int .i64 pos ∧ wr = w ∧ Hid (pos ≤ s.size) ∧ Hid (End s pos (endL s s.size at_))) (fun e _ => s.size - (intOf e).toNat)
          case atStart => exact ⟨at_, rfl, rfl, Nat.le_of_lt HLT.out, s.size, by omega, rfl⟩
          case round =>
            obtain ⟨pos, rfl, rfl, hps, hE⟩ := hrel
            have HP := Lib.hid (part_any s pos wr hps.out hs)
            have hst := Lib.hid (fun h => hE.out.stop h)
            have hgo := Lib.hid (fun n h h2 h3 => hE.out.go (n := n) h h2 h3)
            have hpl := partL_le hps.out
            have hlt : 0 < partL s pos → pos < s.size := fun h => by omega
            obtain ⟨n, hn⟩ : ∃ n, n = partL s pos := ⟨_, rfl⟩
            rw [← hn] at HP hpl
            have HN := Lib.hid hn; have HL := Lib.hid hlt; have HPL := Lib.hid hpl; clear hn hlt
            by_cases h0 : 0 < n
            · go_wp2_with (first
                | (go_at_call 200; refine HP.out.mono ?_; rintro e w' ⟨rfl, rfl⟩))
              go_roundw
              case rel => exact ⟨pos + n, by go_num, by first | trivial | rfl, HPL.out, hgo.out n (HL.out (by rw [← HN.out]; exact h0)) HN.out.symm h0⟩
              case measure => have := HL.out (by rw [← HN.out]; exact h0); simp [intOf]; omega
            · obtain rfl : n = 0 := by omega
              go_wp2_with (first
                | (go_at_call 200; refine HP.out.mono ?_; rintro e w' ⟨rfl, rfl⟩))
              go_ret2
              rw [wordL_yes (by rw [HKD.out]; decide), HKD.out, hst.out HN.out.symm]
              exact ⟨rfl, rfl⟩
      · clear hb
        rcases (show 0 < a ∨ a = 0 by omega) with h2 | rfl
        · skip
          go_enter Tryd.func185, Tryd.ntmps185
          go_wp2_with (first
            | (go_at_call 198; refine (HS.out _).mono ?_; rintro e w' ⟨rfl, rfl⟩)
            | (go_at_call 199; refine (HG.out _).mono ?_; rintro e w' ⟨rfl, rfl⟩))
          go_loopw [7] (fun e wr => ∃ pos : Nat, e = .int .i64 pos ∧ wr = w ∧ Hid (pos ≤ s.size) ∧ Hid (End s pos (endL s s.size at_))) (fun e _ => s.size - (intOf e).toNat)
          case atStart => exact ⟨at_, rfl, rfl, Nat.le_of_lt HLT.out, s.size, by omega, rfl⟩
          case round =>
            obtain ⟨pos, rfl, rfl, hps, hE⟩ := hrel
            have HP := Lib.hid (part_any s pos wr hps.out hs)
            have hst := Lib.hid (fun h => hE.out.stop h)
            have hgo := Lib.hid (fun n h h2 h3 => hE.out.go (n := n) h h2 h3)
            have hpl := partL_le hps.out
            have hlt : 0 < partL s pos → pos < s.size := fun h => by omega
            obtain ⟨n, hn⟩ : ∃ n, n = partL s pos := ⟨_, rfl⟩
            rw [← hn] at HP hpl
            have HN := Lib.hid hn; have HL := Lib.hid hlt; have HPL := Lib.hid hpl; clear hn hlt
            by_cases h0 : 0 < n
            · go_wp2_with (first
                | (go_at_call 200; refine HP.out.mono ?_; rintro e w' ⟨rfl, rfl⟩))
              go_roundw
              case rel => exact ⟨pos + n, by go_num, by first | trivial | rfl, HPL.out, hgo.out n (HL.out (by rw [← HN.out]; exact h0)) HN.out.symm h0⟩
              case measure => have := HL.out (by rw [← HN.out]; exact h0); simp [intOf]; omega
            · obtain rfl : n = 0 := by omega
              go_wp2_with (first
                | (go_at_call 200; refine HP.out.mono ?_; rintro e w' ⟨rfl, rfl⟩))
              go_ret2
              rw [wordL_yes (by rw [HKD.out]; decide), HKD.out, hst.out HN.out.symm]
              exact ⟨rfl, rfl⟩
        · skip
          go_enter Tryd.func185, Tryd.ntmps185
          go_wp2_with (first
            | (go_at_call 198; refine (HS.out _).mono ?_; rintro e w' ⟨rfl, rfl⟩)
            | (go_at_call 199; refine (HG.out _).mono ?_; rintro e w' ⟨rfl, rfl⟩))
          go_loopw [7] (fun e wr => ∃ pos : Nat, e = .int .i64 pos ∧ wr = w ∧ Hid (pos ≤ s.size) ∧ Hid (End s pos (endL s s.size at_))) (fun e _ => s.size - (intOf e).toNat)
          case atStart => exact ⟨at_, rfl, rfl, Nat.le_of_lt HLT.out, s.size, by omega, rfl⟩
          case round =>
            obtain ⟨pos, rfl, rfl, hps, hE⟩ := hrel
            have HP := Lib.hid (part_any s pos wr hps.out hs)
            have hst := Lib.hid (fun h => hE.out.stop h)
            have hgo := Lib.hid (fun n h h2 h3 => hE.out.go (n := n) h h2 h3)
            have hpl := partL_le hps.out
            have hlt : 0 < partL s pos → pos < s.size := fun h => by omega
            obtain ⟨n, hn⟩ : ∃ n, n = partL s pos := ⟨_, rfl⟩
            rw [← hn] at HP hpl
            have HN := Lib.hid hn; have HL := Lib.hid hlt; have HPL := Lib.hid hpl; clear hn hlt
            by_cases h0 : 0 < n
            · go_wp2_with (first
                | (go_at_call 200; refine HP.out.mono ?_; rintro e w' ⟨rfl, rfl⟩))
              go_roundw
              case rel => exact ⟨pos + n, by go_num, by first | trivial | rfl, HPL.out, hgo.out n (HL.out (by rw [← HN.out]; exact h0)) HN.out.symm h0⟩
              case measure => have := HL.out (by rw [← HN.out]; exact h0); simp [intOf]; omega
            · obtain rfl : n = 0 := by omega
              go_wp2_with (first
                | (go_at_call 200; refine HP.out.mono ?_; rintro e w' ⟨rfl, rfl⟩))
              go_ret2
              rw [wordL_yes (by rw [HKD.out]; decide), HKD.out, hst.out HN.out.symm]
              exact ⟨rfl, rfl⟩
    · rw [if_neg hb] at hk
      obtain rfl : b = 0 := by omega
      have h95 : n0 ≠ 95 := by omega
      have h95b : ((n0 : Int) == 95) = false := by simp; omega
      clear hb
      by_cases ha : 0 < a ∨ (48 ≤ n0 ∧ n0 ≤ 57)
      · rw [if_pos ha] at hk
        have HKD := Lib.hid hk; clear hk
        rcases (show 0 < a ∨ a = 0 ∧ 48 ≤ n0 ∧ n0 ≤ 57 by omega) with h2 | ⟨rfl, h2, h3⟩
        · clear ha h95
          go_enter Tryd.func185, Tryd.ntmps185
          go_wp2_with (first
            | (go_at_call 198; refine (HS.out _).mono ?_; rintro e w' ⟨rfl, rfl⟩)
            | (go_at_call 199; refine (HG.out _).mono ?_; rintro e w' ⟨rfl, rfl⟩))
          go_loopw [7] (fun e wr => ∃ pos : Nat, e = .int .i64 pos ∧ wr = w ∧ Hid (pos ≤ s.size) ∧ Hid (End s pos (endL s s.size at_))) (fun e _ => s.size - (intOf e).toNat)
          case atStart => exact ⟨at_, rfl, rfl, Nat.le_of_lt HLT.out, s.size, by omega, rfl⟩
          case round =>
            obtain ⟨pos, rfl, rfl, hps, hE⟩ := hrel
            have HP := Lib.hid (part_any s pos wr hps.out hs)
            have hst := Lib.hid (fun h => hE.out.stop h)
            have hgo := Lib.hid (fun n h h2 h3 => hE.out.go (n := n) h h2 h3)
            have hpl := partL_le hps.out
            have hlt : 0 < partL s pos → pos < s.size := fun h => by omega
            obtain ⟨n, hn⟩ : ∃ n, n = partL s pos := ⟨_, rfl⟩
            rw [← hn] at HP hpl
            have HN := Lib.hid hn; have HL := Lib.hid hlt; have HPL := Lib.hid hpl; clear hn hlt
            by_cases h0 : 0 < n
            · go_wp2_with (first
                | (go_at_call 200; refine HP.out.mono ?_; rintro e w' ⟨rfl, rfl⟩))
              go_roundw
              case rel => exact ⟨pos + n, by go_num, by first | trivial | rfl, HPL.out, hgo.out n (HL.out (by rw [← HN.out]; exact h0)) HN.out.symm h0⟩
              case measure => have := HL.out (by rw [← HN.out]; exact h0); simp [intOf]; omega
            · obtain rfl : n = 0 := by omega
              go_wp2_with (first
                | (go_at_call 200; refine HP.out.mono ?_; rintro e w' ⟨rfl, rfl⟩))
              go_ret2
              rw [wordL_yes (by rw [HKD.out]; decide), HKD.out, hst.out HN.out.symm]
              exact ⟨rfl, rfl⟩
        · clear ha h95
          go_enter Tryd.func185, Tryd.ntmps185
          go_wp2_with (first
            | (go_at_call 198; refine (HS.out _).mono ?_; rintro e w' ⟨rfl, rfl⟩)
            | (go_at_call 199; refine (HG.out _).mono ?_; rintro e w' ⟨rfl, rfl⟩))
          go_loopw [7] (fun e wr => ∃ pos : Nat, e = .int .i64 pos ∧ wr = w ∧ Hid (pos ≤ s.size) ∧ Hid (End s pos (endL s s.size at_))) (fun e _ => s.size - (intOf e).toNat)
          case atStart => exact ⟨at_, rfl, rfl, Nat.le_of_lt HLT.out, s.size, by omega, rfl⟩
          case round =>
            obtain ⟨pos, rfl, rfl, hps, hE⟩ := hrel
            have HP := Lib.hid (part_any s pos wr hps.out hs)
            have hst := Lib.hid (fun h => hE.out.stop h)
            have hgo := Lib.hid (fun n h h2 h3 => hE.out.go (n := n) h h2 h3)
            have hpl := partL_le hps.out
            have hlt : 0 < partL s pos → pos < s.size := fun h => by omega
            obtain ⟨n, hn⟩ : ∃ n, n = partL s pos := ⟨_, rfl⟩
            rw [← hn] at HP hpl
            have HN := Lib.hid hn; have HL := Lib.hid hlt; have HPL := Lib.hid hpl; clear hn hlt
            by_cases h0 : 0 < n
            · go_wp2_with (first
                | (go_at_call 200; refine HP.out.mono ?_; rintro e w' ⟨rfl, rfl⟩))
              go_roundw
              case rel => exact ⟨pos + n, by go_num, by first | trivial | rfl, HPL.out, hgo.out n (HL.out (by rw [← HN.out]; exact h0)) HN.out.symm h0⟩
              case measure => have := HL.out (by rw [← HN.out]; exact h0); simp [intOf]; omega
            · obtain rfl : n = 0 := by omega
              go_wp2_with (first
                | (go_at_call 200; refine HP.out.mono ?_; rintro e w' ⟨rfl, rfl⟩))
              go_ret2
              rw [wordL_yes (by rw [HKD.out]; decide), HKD.out, hst.out HN.out.symm]
              exact ⟨rfl, rfl⟩
      · rw [if_neg ha] at hk
        obtain rfl : a = 0 := by omega
        have h3 : n0 < 48 ∨ 57 < n0 := by omega
        have HKD := Lib.hid hk; clear hk ha h95
        rcases h3 with h3 | h3
        all_goals
          go_enter Tryd.func185, Tryd.ntmps185
          go_wp2_with (first
            | (go_at_call 198; refine (HS.out _).mono ?_; rintro e w' ⟨rfl, rfl⟩)
            | (go_at_call 199; refine (HG.out _).mono ?_; rintro e w' ⟨rfl, rfl⟩))
          go_ret2
          rw [wordL_no HKD.out]
          exact ⟨rfl, rfl⟩
  · obtain rfl : at_ = s.size := by omega
    rw [wordL_no (by unfold kindL; rw [if_neg hlt])]
    clear hlt
    go_enter Tryd.func185, Tryd.ntmps185
    go_wp2
    go_ret2
    exact ⟨rfl, rfl⟩
end Go.Proofs.YteecbbnpgmceiaaDoor
