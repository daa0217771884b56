import Derived.Test.YteecbbnpgmceiaaDoorLeb
import Derived.Test.YteecbbnpgmceiaaDoorOrd
import Derived.Laws.RangeAny
namespace Go.Proofs.YteecbbnpgmceiaaDoor
open Go Go.RowKit Go.Mine
set_option maxHeartbeats 400000
set_option maxRecDepth 100000
set_option linter.unusedVariables false

/-- is a rune a letter: 1 a small one, 2 a great one, 0 neither -/
def letterL (r : Nat) : Nat := if (97 ≤ r ∧ r ≤ 122) ∨ (223 ≤ r ∧ r ≤ 255 ∧ r ≠ 247) then 1 else if (65 ≤ r ∧ r ≤ 90) ∨ (192 ≤ r ∧ r ≤ 222 ∧ r ≠ 215) then 2 else 0
def digitL (r : Nat) : Bool := decide (48 ≤ r ∧ r ≤ 57)

theorem letter_any (r : Nat) (w : World) (hr : r ≤ 2147483647) :
    Calls Tryd.prog 179 #[.int .i32 r] w fun e w' => e = .returned (.int .i64 (letterL r)) ∧ w = w' := by
  obtain ⟨v, hv⟩ : ∃ v, v = letterL r := ⟨_, rfl⟩
  rw [← hv]
  unfold letterL at hv
  by_cases h247 : r = 247
  · subst h247
    simp at hv
    subst hv
    go_enter Tryd.func179, Tryd.ntmps179
    go_wp2
    go_ret
    exact ⟨rfl, rfl⟩
  by_cases h215 : r = 215
  · subst h215
    simp at hv
    subst hv
    go_enter Tryd.func179, Tryd.ntmps179
    go_wp2
    go_ret
    exact ⟨rfl, rfl⟩
  have e247 : ((r : Int) != 247) = true := by simp; omega
  have e215 : ((r : Int) != 215) = true := by simp; omega
  have h : v = 1 ∧ ((97 ≤ r ∧ r ≤ 122) ∨ (223 ≤ r ∧ r ≤ 255)) ∨ v = 2 ∧ ((65 ≤ r ∧ r ≤ 90) ∨ (192 ≤ r ∧ r ≤ 222)) ∨ v = 0 ∧ (r < 65 ∨ (90 < r ∧ r < 97) ∨ (122 < r ∧ r < 192) ∨ 255 < r) := by
    split at hv
    · left; omega
    · split at hv
      · right; left; omega
      · right; right; omega
  clear hv h247 h215
  rcases h with ⟨rfl, ⟨h1, h2⟩ | ⟨h1, h2⟩⟩ | ⟨rfl, ⟨h1, h2⟩ | ⟨h1, h2⟩⟩ | ⟨rfl, h1 | ⟨h1, h2⟩ | ⟨h1, h2⟩ | h1⟩
  all_goals
    go_enter Tryd.func179, Tryd.ntmps179
    go_wp2
    go_ret
    exact ⟨rfl, rfl⟩
theorem digit_any (r : Nat) (w : World) (hr : r ≤ 2147483647) :
    Calls Tryd.prog 180 #[.int .i32 r] w fun e w' => e = .returned (.bool (digitL r)) ∧ w = w' := by
  obtain ⟨v, hv⟩ : ∃ v, v = digitL r := ⟨_, rfl⟩
  rw [← hv]
  unfold digitL at hv
  rcases (show r < 48 ∨ (48 ≤ r ∧ r ≤ 57) ∨ 57 < r by omega) with h | ⟨h1, h2⟩ | h
  · rw [decide_eq_false (by omega)] at hv
    subst hv
    go_enter Tryd.func180, Tryd.ntmps180
    go_wp2
    go_ret
    exact ⟨rfl, rfl⟩
  · rw [decide_eq_true ⟨h1, h2⟩] at hv
    subst hv
    go_enter Tryd.func180, Tryd.ntmps180
    go_wp2
    go_ret
    exact ⟨ret_bool (by simp; omega), rfl⟩
  · rw [decide_eq_false (by omega)] at hv
    subst hv
    go_enter Tryd.func180, Tryd.ntmps180
    go_wp2
    go_ret
    exact ⟨ret_bool (by simp; omega), rfl⟩

theorem decode_width (s : ByteArray) (pos : Nat) (h : pos < s.size) : 1 ≤ (Utf8.decode s pos).2 ∧ pos + (Utf8.decode s pos).2 ≤ s.size := by
  simp only [Utf8.decode]
  repeat' split
  all_goals simp_all
  all_goals omega
/-- may the rune stand in a word? -/
def isPart (r : Nat) : Bool := decide (letterL r ≠ 0) || digitL r || decide (r = 95)
/-- the kind of the word that begins with the rune -/
def kindR (r : Nat) : Nat := if letterL r ≠ 0 then letterL r else if digitL r then 1 else if r = 95 then 2 else 0
theorem kindR_part (r : Nat) : (kindR r = 0) ↔ isPart r = false := by
  unfold kindR isPart
  split
  · rename_i h; simp [h]
  · rename_i h
    split
    · rename_i h2; simp [h2]
    · rename_i h2
      split
      · rename_i h3; simp [h3]
      · rename_i h3; simp at h h2; simp [h, h2, h3]
/-- how many bytes the letter, digit or _ has that stands at a place -/
def partL (s : ByteArray) (at_ : Nat) : Nat := if at_ < s.size ∧ isPart (Utf8.decode s at_).1 = true then (Utf8.decode s at_).2 else 0
def endL (s : ByteArray) : Nat → Nat → Nat
  | 0, at_ => at_
  | f + 1, at_ => if partL s at_ = 0 then at_ else endL s f (at_ + partL s at_)
theorem partL_le {s : ByteArray} {at_ : Nat} (h : at_ ≤ s.size) : at_ + partL s at_ ≤ s.size := by
  unfold partL
  split
  · rename_i h2; exact (decode_width s at_ h2.1).2
  · exact h
theorem endL_stop {s : ByteArray} {f at_ : Nat} (h : partL s at_ = 0) : endL s f at_ = at_ := by
  cases f with
  | zero => rfl
  | succ f => rw [endL, if_pos h]
/-- the end of what may stand in a word, from a place on: the fuel is enough -/
def End (s : ByteArray) (at_ e : Nat) : Prop := ∃ f, s.size - at_ ≤ f ∧ e = endL s f at_
theorem End.stop {s : ByteArray} {at_ e : Nat} (h : End s at_ e) (hp : partL s at_ = 0) : e = at_ := by
  obtain ⟨f, _, rfl⟩ := h
  exact endL_stop hp
theorem End.step {s : ByteArray} {at_ e : Nat} (h : End s at_ e) (hlt : at_ < s.size) (hp : 0 < partL s at_) : End s (at_ + partL s at_) e := by
  obtain ⟨f, hf, rfl⟩ := h
  cases f with
  | zero => omega
  | succ f =>
    refine ⟨f, by omega, ?_⟩
    rw [endL, if_neg (by omega)]
theorem End.unique {s : ByteArray} : ∀ {at_ e e' : Nat}, at_ ≤ s.size → End s at_ e → End s at_ e' → e = e' := by
  intro at_ e e' hle h h'
  obtain ⟨n, hn⟩ : ∃ n, n = s.size - at_ := ⟨_, rfl⟩
  induction n using Nat.strongRecOn generalizing at_ with
  | _ n ih =>
    by_cases hp : partL s at_ = 0
    · rw [h.stop hp, h'.stop hp]
    · have hlt : at_ < s.size := by
        unfold partL at hp
        split at hp
        · rename_i h; exact h.1
        · exact absurd rfl hp
      have hle2 := partL_le hle
      exact ih (s.size - (at_ + partL s at_)) (by omega) hle2 (h.step hlt (by omega)) (h'.step hlt (by omega)) rfl
def kindL (s : ByteArray) (at_ : Nat) : Nat := if at_ < s.size then kindR (Utf8.decode s at_).1 else 0
/-- the kind of the word that stands at a place, and where it ends -/
def wordL (s : ByteArray) (at_ : Nat) : Nat × Nat := if kindL s at_ = 0 then (0, at_) else (kindL s at_, endL s s.size at_)
end Go.Proofs.YteecbbnpgmceiaaDoor
