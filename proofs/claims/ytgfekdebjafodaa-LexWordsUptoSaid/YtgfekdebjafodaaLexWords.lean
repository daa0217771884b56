/- LexWords answers true of any text of bulk at most 1048576. -/
import Derived.Test.YtgfekdebjafodaaRefWord3
import Derived.Test.YtgfekdebjafodaaRefQuoted
import Derived.Test.YtgfekdebjafodaaClose
import Derived.ChangeMaps
namespace Go.Proofs.Ytgfekdebjafodaa
open Go Go.RowKit Go.Mine Go.ChangeShapes Go.WideShapes Go.ChangeAt
set_option linter.unusedVariables false
set_option maxHeartbeats 400000
set_option maxRecDepth 100000

def Word (s : ByteArray) : Nat := if (wordL s 0).2 < s.size then 0 else (wordL s 0).1
theorem endL_le (s : ByteArray) : ∀ (f at_ : Nat), at_ ≤ s.size → endL s f at_ ≤ s.size
  | 0, _, h => h
  | f + 1, at_, h => by
    rw [endL]
    split
    · exact h
    · exact endL_le s f _ (partL_le h)
theorem wordL_le (s : ByteArray) (at_ : Nat) (h : at_ ≤ s.size) : (wordL s at_).2 ≤ s.size := by
  unfold wordL
  split
  · exact h
  · exact endL_le s _ _ h
theorem Word_any (s : ByteArray) (w : World) (hs : s.size < 2 ^ 30) :
    Calls Try.prog 11 #[.string s] w fun e w' => e = .returned (.int .i64 (Word s)) ∧ Mod (fun _ => False) w w' := by
  have HW := Lib.hid (lexWord_any s w (by omega))
  obtain ⟨v, hv⟩ : ∃ v, v = Word s := ⟨_, rfl⟩
  rw [← hv]
  unfold Word at hv
  generalize wordL s 0 = g at *
  obtain ⟨kd, e0⟩ := g
  simp only at *
  by_cases hlt : e0 < s.size
  · rw [if_pos hlt] at hv
    subst hv
    go_enter Try.func11, Try.ntmps11
    go_wp2_with (go_at_call 35; refine HW.out.mono ?_; rintro e w' ⟨rfl, hM⟩; have HM := Lib.hid hM; clear hM)
    go_ret
    exact ⟨rfl, HM.out⟩
  · rw [if_neg hlt] at hv
    subst hv
    go_enter Try.func11, Try.ntmps11
    go_wp2_with (go_at_call 35; refine HW.out.mono ?_; rintro e w' ⟨rfl, hM⟩; have HM := Lib.hid hM; clear hM)
    go_ret
    exact ⟨rfl, HM.out⟩
theorem refWordW_any (s : ByteArray) (w : World) (hs : s.size < 2 ^ 30) :
    Calls Try.prog 12 #[.string s] w fun e w' => e = .returned (.int .i64 (Word s)) ∧ w = w' := by
  have HW := Lib.hid (refWord_any s 0 w (by omega) (by omega))
  have hle := wordL_le s 0 (by omega)
  obtain ⟨v, hv⟩ : ∃ v, v = Word s := ⟨_, rfl⟩
  rw [← hv]
  unfold Word at hv
  generalize wordL s 0 = g at *
  obtain ⟨kd, e0⟩ := g
  simp only at *
  by_cases hlt : e0 < s.size
  · rw [if_pos hlt] at hv
    subst hv
    have hne : ((e0 : Int) != (s.size : Int)) = true := by simp; omega
    go_enter Try.func12, Try.ntmps12
    go_wp2_with (go_at_call 36; refine HW.out.mono ?_; rintro e w' ⟨rfl, rfl⟩)
    go_ret
    exact ⟨rfl, rfl⟩
  · rw [if_neg hlt] at hv
    subst hv
    obtain rfl : e0 = s.size := by omega
    go_enter Try.func12, Try.ntmps12
    go_wp2_with (go_at_call 36; refine HW.out.mono ?_; rintro e w' ⟨rfl, rfl⟩)
    go_ret
    exact ⟨rfl, rfl⟩

theorem lexWords_walk (s : ByteArray) (w : World) (hs : s.size ≤ 1048576) :
    Calls Try.prog 4 #[.string s] w fun e w' => e = .returned (.bool true) ∧ Mod (fun _ => False) w w' := by
  have H1 := Lib.hid (Word_any s w (by omega))
  have H2 := Lib.hid (fun w => refWordW_any s w (by omega))
  have H3 := Lib.hid (fun w => lexQuoted_any s w (by omega))
  have H4 := Lib.hid (fun w => refQuoted_any s w (by omega))
  generalize Word s = v at *
  generalize (quotedL s.data.toList) = q at *
  go_enter Try.func4, Try.ntmps4
  go_wp2_with (first
    | (go_at_call 11; refine H1.out.mono ?_; rintro e w1 ⟨rfl, hM1⟩; have HM1 := Lib.hid hM1; clear hM1)
    | (go_at_call 12; refine (H2.out _).mono ?_; rintro e w' ⟨rfl, rfl⟩)
    | (go_at_call 13; refine (H3.out _).mono ?_; rintro e w2 ⟨rfl, hM2⟩; have HM2 := Lib.hid (HM1.out.trans hM2); clear hM2)
    | (go_at_call 14; refine (H4.out _).mono ?_; rintro e w3 ⟨rfl, hM3⟩; have HM3 := Lib.hid (HM2.out.trans hM3); clear hM3))
  go_ret
  exact ⟨rfl, HM3.out⟩
end Go.Proofs.Ytgfekdebjafodaa
