/-
  lex.Word. (Not to be imported beside LexWords: the same names.)
-/
import Derived.Test.YteecbbnpgmceiaaDoorWord2
namespace Go.Proofs.YteecbbnpgmceiaaDoor
open Go Go.RowKit Go.Mine
set_option linter.unusedVariables false
set_option maxHeartbeats 400000
set_option maxRecDepth 100000

def Word (s : ByteArray) : Nat := if (wordL s 0).2 < s.size then 0 else (wordL s 0).1
theorem endL_le (s : ByteArray) : ∀ (f at_ : Nat), at_ ≤ s.size → endL s f at_ ≤ s.size
  | 0, _, h => h
  | f + 1, at_, h => by
    rw [endL]
    split
    · exact h
    · exact endL_le s f _ (partL_le h)
theorem wordL_le (s : ByteArray) (at_ : Nat) (h : at_ ≤ s.size) : (wordL s at_).2 ≤ s.size := by
  unfold wordL
  split
  · exact h
  · exact endL_le s _ _ h
theorem Word_any (s : ByteArray) (w : World) (hs : s.size < 2 ^ 30) :
    Calls Tryd.prog 183 #[.string s] w fun e w' => e = .returned (.int .i64 (Word s)) ∧ Mod (fun _ => False) w w' := by
  have HW := Lib.hid (lexWord_any s w (by omega))
  obtain ⟨v, hv⟩ : ∃ v, v = Word s := ⟨_, rfl⟩
  rw [← hv]
  unfold Word at hv
  generalize wordL s 0 = g at *
  obtain ⟨kd, e0⟩ := g
  simp only at *
  by_cases hlt : e0 < s.size
  · rw [if_pos hlt] at hv
    subst hv
    go_enter Tryd.func183, Tryd.ntmps183
    go_wp2_with (go_at_call 149; refine HW.out.mono ?_; rintro e w' ⟨rfl, hM⟩; have HM := Lib.hid hM; clear hM)
    go_ret
    exact ⟨rfl, HM.out⟩
  · rw [if_neg hlt] at hv
    subst hv
    go_enter Tryd.func183, Tryd.ntmps183
    go_wp2_with (go_at_call 149; refine HW.out.mono ?_; rintro e w' ⟨rfl, hM⟩; have HM := Lib.hid hM; clear hM)
    go_ret
    exact ⟨rfl, HM.out⟩
end Go.Proofs.YteecbbnpgmceiaaDoor
