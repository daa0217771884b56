import Derived.Test.YtphgglnkdfndiaaDoorLeb
import Derived.Test.YtphgglnkdfndiaaDoorOrd
import Derived.Laws.RangeAny
namespace Go.Proofs.YtphgglnkdfndiaaDoor
open Go Go.RowKit Go.Mine
set_option maxHeartbeats 400000
set_option maxRecDepth 100000
set_option linter.unusedVariables false

/-- is a rune a letter: 1 a small one, 2 a great one, 0 neither -/
def letterL (r : Nat) : Nat := if (97 ≤ r ∧ r ≤ 122) ∨ (223 ≤ r ∧ r ≤ 255 ∧ r ≠ 247) then 1 else if (65 ≤ r ∧ r ≤ 90) ∨ (192 ≤ r ∧ r ≤ 222 ∧ r ≠ 215) then 2 else 0
def digitL (r : Nat) : Bool := decide (48 ≤ r ∧ r ≤ 57)

theorem letter_any (r : Nat) (w : World) (hr : r ≤ 2147483647) :
    Calls Tryd.prog 90 #[.int .i32 r] w fun e w' => e = .returned (.int .i64 (letterL r)) ∧ w = w' := by
  obtain ⟨v, hv⟩ : ∃ v, v = letterL r := ⟨_, rfl⟩
  rw [← hv]
  unfold letterL at hv
  by_cases h247 : r = 247
  · subst h247
    simp at hv
    subst hv
    go_enter Tryd.func90, Tryd.ntmps90
    go_wp2
    go_ret
    exact ⟨rfl, rfl⟩
  by_cases h215 : r = 215
  · subst h215
    simp at hv
    subst hv
    go_enter Tryd.func90, Tryd.ntmps90
    go_wp2
    go_ret
    exact ⟨rfl, rfl⟩
  have e247 : ((r : Int) != 247) = true := by simp; omega
  have e215 : ((r : Int) != 215) = true := by simp; omega
  have h : v = 1 ∧ ((97 ≤ r ∧ r ≤ 122) ∨ (223 ≤ r ∧ r ≤ 255)) ∨ v = 2 ∧ ((65 ≤ r ∧ r ≤ 90) ∨ (192 ≤ r ∧ r ≤ 222)) ∨ v = 0 ∧ (r < 65 ∨ (90 < r ∧ r < 97) ∨ (122 < r ∧ r < 192) ∨ 255 < r) := by
    split at hv
    · left; omega
    · split at hv
      · right; left; omega
      · right; right; omega
  clear hv h247 h215
  rcases h with ⟨rfl, ⟨h1, h2⟩ | ⟨h1, h2⟩⟩ | ⟨rfl, ⟨h1, h2⟩ | ⟨h1, h2⟩⟩ | ⟨rfl, h1 | ⟨h1, h2⟩ | ⟨h1, h2⟩ | h1⟩
  all_goals
    go_enter Tryd.func90, Tryd.ntmps90
    go_wp2
    go_ret
    exact ⟨rfl, rfl⟩
theorem digit_any (r : Nat) (w : World) (hr : r ≤ 2147483647) :
    Calls Tryd.prog 91 #[.int .i32 r] w fun e w' => e = .returned (.bool (digitL r)) ∧ w = w' := by
  obtain ⟨v, hv⟩ : ∃ v, v = digitL r := ⟨_, rfl⟩
  rw [← hv]
  unfold digitL at hv
  rcases (show r < 48 ∨ (48 ≤ r ∧ r ≤ 57) ∨ 57 < r by omega) with h | ⟨h1, h2⟩ | h
  · rw [decide_eq_false (by omega)] at hv
    subst hv
    go_enter Tryd.func91, Tryd.ntmps91
    go_wp2
    go_ret
    exact ⟨rfl, rfl⟩
  · rw [decide_eq_true ⟨h1, h2⟩] at hv
    subst hv
    go_enter Tryd.func91, Tryd.ntmps91
    go_wp2
    go_ret
    exact ⟨ret_bool (by simp; omega), rfl⟩
  · rw [decide_eq_false (by omega)] at hv
    subst hv
    go_enter Tryd.func91, Tryd.ntmps91
    go_wp2
    go_ret
    exact ⟨ret_bool (by simp; omega), rfl⟩

theorem decode_width (s : ByteArray) (pos : Nat) (h : pos < s.size) : 1 ≤ (Utf8.decode s pos).2 ∧ pos + (Utf8.decode s pos).2 ≤ s.size := by
  simp only [Utf8.decode]
  repeat' split
  all_goals simp_all
  all_goals omega
/-- may the rune stand in a word? -/
def isPart (r : Nat) : Bool := decide (letterL r ≠ 0) || digitL r || decide (r = 95)
/-- the kind of the word that begins with the rune -/
def kindR (r : Nat) : Nat := if letterL r ≠ 0 then letterL r else if digitL r then 1 else if r = 95 then 2 else 0
theorem kindR_part (r : Nat) : (kindR r = 0) ↔ isPart r = false := by
  unfold kindR isPart
  split
  · rename_i h; simp [h]
  · rename_i h
    split
    · rename_i h2; simp [h2]
    · rename_i h2
      split
      · rename_i h3; simp [h3]
      · rename_i h3; simp at h h2; simp [h, h2, h3]
/-- how many bytes the letter, digit or _ has that stands at a place -/
def partL (s : ByteArray) (at_ : Nat) : Nat := if at_ < s.size ∧ isPart (Utf8.decode s at_).1 = true then (Utf8.decode s at_).2 else 0
def endL (s : ByteArray) : Nat → Nat → Nat
  | 0, at_ => at_
  | f + 1, at_ => if partL s at_ = 0 then at_ else endL s f (at_ + partL s at_)
theorem partL_le {s : ByteArray} {at_ : Nat} (h : at_ ≤ s.size) : at_ + partL s at_ ≤ s.size := by
  unfold partL
  split
  · rename_i h2; exact (decode_width s at_ h2.1).2
  · exact h
theorem endL_stop {s : ByteArray} {f at_ : Nat} (h : partL s at_ = 0) : endL s f at_ = at_ := by
  cases f with
  | zero => rfl
  | succ f => rw [endL, if_pos h]
/-- the end of what may stand in a word, from a place on: the fuel is enough -/
def End (s : ByteArray) (at_ e : Nat) : Prop := ∃ f, s.size - at_ ≤ f ∧ e = endL s f at_
theorem End.stop {s : ByteArray} {at_ e : Nat} (h : End s at_ e) (hp : partL s at_ = 0) : e = at_ := by
  obtain ⟨f, _, rfl⟩ := h
  exact endL_stop hp
theorem End.step {s : ByteArray} {at_ e : Nat} (h : End s at_ e) (hlt : at_ < s.size) (hp : 0 < partL s at_) : End s (at_ + partL s at_) e := by
  obtain ⟨f, hf, rfl⟩ := h
  cases f with
  | zero => omega
  | succ f =>
    refine ⟨f, by omega, ?_⟩
    rw [endL, if_neg (by omega)]
theorem End.unique {s : ByteArray} : ∀ {at_ e e' : Nat}, at_ ≤ s.size → End s at_ e → End s at_ e' → e = e' := by
  intro at_ e e' hle h h'
  obtain ⟨n, hn⟩ : ∃ n, n = s.size - at_ := ⟨_, rfl⟩
  induction n using Nat.strongRecOn generalizing at_ with
  | _ n ih =>
    by_cases hp : partL s at_ = 0
    · rw [h.stop hp, h'.stop hp]
    · have hlt : at_ < s.size := by
        unfold partL at hp
        split at hp
        · rename_i h; exact h.1
        · exact absurd rfl hp
      have hle2 := partL_le hle
      exact ih (s.size - (at_ + partL s at_)) (by omega) hle2 (h.step hlt (by omega)) (h'.step hlt (by omega)) rfl
def kindL (s : ByteArray) (at_ : Nat) : Nat := if at_ < s.size then kindR (Utf8.decode s at_).1 else 0
/-- the kind of the word that stands at a place, and where it ends -/
def wordL (s : ByteArray) (at_ : Nat) : Nat × Nat := if kindL s at_ = 0 then (0, at_) else (kindL s at_, endL s s.size at_)
end Go.Proofs.YtphgglnkdfndiaaDoor
namespace Go.Proofs.YtphgglnkdfndiaaDoor
open Go Go.RowKit Go.Mine
set_option maxHeartbeats 400000
set_option maxRecDepth 100000
set_option linter.unusedVariables false

theorem End.go {s : ByteArray} {pos n e : Nat} (h : End s pos e) (hlt : pos < s.size) (hp : partL s pos = n) (hn : 1 ≤ n) : End s (pos + n) e := by
  subst hp
  exact h.step hlt (by omega)
theorem End.mk0 (s : ByteArray) : End s 0 (endL s s.size 0) := ⟨s.size, by omega, rfl⟩
theorem ret_ii {a b c d : Int} (h1 : a = b) (h2 : c = d) : Ending.returned (.tuple #[.int .i64 a, .int .i64 c]) = .returned (.tuple #[.int .i64 b, .int .i64 d]) := by rw [h1, h2]
theorem iter_mod (w : World) (s : ByteArray) (pos : Nat) : Mod (fun _ => False) w (w.iter s pos) := (Mod.refl _ w).alloc _
theorem wordL_no {s : ByteArray} {at_ : Nat} (h : kindL s at_ = 0) : wordL s at_ = (0, at_) := by unfold wordL; rw [if_pos h]
theorem wordL_yes {s : ByteArray} {at_ : Nat} (h : kindL s at_ ≠ 0) : wordL s at_ = (kindL s at_, endL s s.size at_) := by unfold wordL; rw [if_neg h]

theorem lexWord_any (s : ByteArray) (w : World) (hs : s.size < 2 ^ 40) :
    Calls Tryd.prog 82 #[.string s] w fun e w' => e = .returned (.tuple #[.int .i64 (wordL s 0).1, .int .i64 (wordL s 0).2]) ∧ Mod (fun _ => False) w w' := by
  go_enter Tryd.func82, Tryd.ntmps82
  go_wp2
  go_loopw [4] (fun kd wr => ∃ (pos : Nat), wr = w.iter s pos ∧ pos ≤ s.size ∧ ((pos = 0 ∧ kd = .int .i64 0) ∨ (0 < pos ∧ kd = .int .i64 (kindL s 0) ∧ Hid (kindL s 0 ≠ 0 ∧ End s pos (endL s s.size 0))))) (fun _ wr => s.size - wr.iterPos w.heap.size)
  case atStart => exact ⟨0, rfl, by omega, .inl ⟨rfl, rfl⟩⟩
  case round =>
    obtain ⟨pos, rfl, hpos, hrel⟩ := hrel
    by_cases hlt : pos < s.size
    · have hnx := fun ty => run_next_any (P := Tryd.prog) w s pos ty hlt
      have hwd := decode_width s pos hlt
      have hr := decode_le s pos
      have hpt : partL s pos = if isPart (Utf8.decode s pos).1 = true then (Utf8.decode s pos).2 else 0 := by unfold partL; simp [hlt]
      have hkd : kindL s pos = kindR (Utf8.decode s pos).1 := by unfold kindL; rw [if_pos hlt]
      generalize Utf8.decode s pos = g at *
      obtain ⟨r, n⟩ := g
      simp only at *
      have HL : Hid (∀ w, Calls Tryd.prog 90 #[.int .i32 r] w fun e w' => e = .returned (.int .i64 (letterL r)) ∧ w = w') := fun w => letter_any r w hr
      have HD : Hid (∀ w, Calls Tryd.prog 91 #[.int .i32 r] w fun e w' => e = .returned (.bool (digitL r)) ∧ w = w') := fun w => digit_any r w hr
      have HK := Lib.hid (show kindR r = 0 ↔ isPart r = false from kindR_part r)
      unfold kindR isPart at *
      generalize letterL r = lv at *
      generalize digitL r = d at *
      have HPT := Lib.hid hpt; have HKD := Lib.hid hkd; clear hpt hkd
      rcases hrel with ⟨rfl, rfl⟩ | ⟨hp0, rfl, hE⟩
      · by_cases hlv : lv = 0
        · subst hlv
          cases d
          · by_cases h95 : r = 95
            · subst h95
              have h1 : kindL s 0 = 2 := by rw [HKD.out]; simp
              have h2 : partL s 0 = n := by rw [HPT.out]; simp
              have H1 := Lib.hid h1; have H2 := Lib.hid h2; clear h1 h2
              go_wp2_with (first
                | (go_at_call 90; refine (HL.out _).mono ?_; rintro e w' ⟨rfl, rfl⟩)
                | (go_at_call 91; refine (HD.out _).mono ?_; rintro e w' ⟨rfl, rfl⟩))
              go_roundw
              case rel => exact ⟨0 + n, by first | rfl | rw [Nat.zero_add], by omega, .inr ⟨by omega, by rw [H1.out]; rfl, Lib.hid ⟨by rw [H1.out]; decide, (End.mk0 s).go hlt H2.out hwd.1⟩⟩⟩
              case measure => simp [World.iterPos_iter]; omega
            · have h95b : ((r : Int) == 95) = false := by simp; omega
              have h1 : kindL s 0 = 0 := by rw [HKD.out]; simp [h95]
              have H1 := Lib.hid h1; clear h1 h95
              go_wp2_with (first
                | (go_at_call 90; refine (HL.out _).mono ?_; rintro e w' ⟨rfl, rfl⟩)
                | (go_at_call 91; refine (HD.out _).mono ?_; rintro e w' ⟨rfl, rfl⟩))
              go_ret2
              rw [wordL_no H1.out]
              exact ⟨rfl, iter_mod _ _ _⟩
          · have h1 : kindL s 0 = 1 := by rw [HKD.out]; simp
            have h2 : partL s 0 = n := by rw [HPT.out]; simp
            have H1 := Lib.hid h1; have H2 := Lib.hid h2; clear h1 h2
            go_wp2_with (first
              | (go_at_call 90; refine (HL.out _).mono ?_; rintro e w' ⟨rfl, rfl⟩)
              | (go_at_call 91; refine (HD.out _).mono ?_; rintro e w' ⟨rfl, rfl⟩))
            go_roundw
            case rel => exact ⟨0 + n, by first | rfl | rw [Nat.zero_add], by omega, .inr ⟨by omega, by rw [H1.out]; rfl, Lib.hid ⟨by rw [H1.out]; decide, (End.mk0 s).go hlt H2.out hwd.1⟩⟩⟩
            case measure => simp [World.iterPos_iter]; omega
        · have hlb : ((lv : Int) != 0) = true := by simp; omega
          have h1 : kindL s 0 = lv := by rw [HKD.out, if_pos hlv]
          have h2 : partL s 0 = n := by rw [HPT.out]; simp [hlv]
          have HLV := Lib.hid hlv; have H1 := Lib.hid h1; have H2 := Lib.hid h2; clear hlv h1 h2
          go_wp2_with (first
            | (go_at_call 90; refine (HL.out _).mono ?_; rintro e w' ⟨rfl, rfl⟩)
            | (go_at_call 91; refine (HD.out _).mono ?_; rintro e w' ⟨rfl, rfl⟩))
          go_roundw
          case rel => exact ⟨0 + n, by first | rfl | rw [Nat.zero_add], by omega, .inr ⟨by omega, by rw [H1.out], Lib.hid ⟨by rw [H1.out]; exact HLV.out, (End.mk0 s).go hlt H2.out hwd.1⟩⟩⟩
          case measure => simp [World.iterPos_iter]; omega
      · by_cases hlv : lv = 0
        · subst hlv
          cases d
          · by_cases h95 : r = 95
            · subst h95
              have h2 : partL s pos = n := by rw [HPT.out]; simp
              have H2 := Lib.hid h2; clear h2
              go_wp2_with (first
                | (go_at_call 90; refine (HL.out _).mono ?_; rintro e w' ⟨rfl, rfl⟩)
                | (go_at_call 91; refine (HD.out _).mono ?_; rintro e w' ⟨rfl, rfl⟩))
              go_roundw
              case rel => exact ⟨pos + n, by first | rfl | rw [Nat.zero_add], by omega, .inr ⟨by omega, rfl, Lib.hid ⟨hE.out.1, hE.out.2.go hlt H2.out hwd.1⟩⟩⟩
              case measure => simp [World.iterPos_iter]; omega
            · have h95b : ((r : Int) != 95) = true := by simp; omega
              have h2 : partL s pos = 0 := by rw [HPT.out]; simp [h95]
              have H2 := Lib.hid h2; clear h2 h95
              go_wp2_with (first
                | (go_at_call 90; refine (HL.out _).mono ?_; rintro e w' ⟨rfl, rfl⟩)
                | (go_at_call 91; refine (HD.out _).mono ?_; rintro e w' ⟨rfl, rfl⟩))
              go_ret2
              rw [wordL_yes hE.out.1, hE.out.2.stop H2.out]
              exact ⟨rfl, iter_mod _ _ _⟩
          · have h2 : partL s pos = n := by rw [HPT.out]; simp
            have H2 := Lib.hid h2; clear h2
            go_wp2_with (first
              | (go_at_call 90; refine (HL.out _).mono ?_; rintro e w' ⟨rfl, rfl⟩)
              | (go_at_call 91; refine (HD.out _).mono ?_; rintro e w' ⟨rfl, rfl⟩))
            go_roundw
            case rel => exact ⟨pos + n, by first | rfl | rw [Nat.zero_add], by omega, .inr ⟨by omega, rfl, Lib.hid ⟨hE.out.1, hE.out.2.go hlt H2.out hwd.1⟩⟩⟩
            case measure => simp [World.iterPos_iter]; omega
        · have hlb : ((lv : Int) == 0) = false := by simp; omega
          have h2 : partL s pos = n := by rw [HPT.out]; simp [hlv]
          have HLV := Lib.hid hlv; have H2 := Lib.hid h2; clear hlv h2
          go_wp2_with (first
            | (go_at_call 90; refine (HL.out _).mono ?_; rintro e w' ⟨rfl, rfl⟩)
            | (go_at_call 91; refine (HD.out _).mono ?_; rintro e w' ⟨rfl, rfl⟩))
          go_roundw
          case rel => exact ⟨pos + n, by first | rfl | rw [Nat.zero_add], by omega, .inr ⟨by omega, rfl, Lib.hid ⟨hE.out.1, hE.out.2.go hlt H2.out hwd.1⟩⟩⟩
          case measure => simp [World.iterPos_iter]; omega
    · have hnx := fun ty => run_next_end (P := Tryd.prog) w s pos ty hlt
      rcases hrel with ⟨rfl, rfl⟩ | ⟨hp0, rfl, hE⟩
      · go_wp2
        go_ret2
        rw [wordL_no (by unfold kindL; rw [if_neg hlt])]
        exact ⟨ret_ii rfl (by show (s.size : Int) = 0; omega), iter_mod _ _ _⟩
      · go_wp2
        go_ret2
        rw [wordL_yes hE.out.1, hE.out.2.stop (by unfold partL; rw [if_neg (fun h => hlt h.1)])]
        exact ⟨ret_ii rfl (by show (s.size : Int) = pos; omega), iter_mod _ _ _⟩
end Go.Proofs.YtphgglnkdfndiaaDoor
/-
  lex.Word. (Not to be imported beside LexWords: the same names.)
-/
namespace Go.Proofs.YtphgglnkdfndiaaDoor
open Go Go.RowKit Go.Mine
set_option linter.unusedVariables false
set_option maxHeartbeats 400000
set_option maxRecDepth 100000

def Word (s : ByteArray) : Nat := if (wordL s 0).2 < s.size then 0 else (wordL s 0).1
theorem endL_le (s : ByteArray) : ∀ (f at_ : Nat), at_ ≤ s.size → endL s f at_ ≤ s.size
  | 0, _, h => h
  | f + 1, at_, h => by
    rw [endL]
    split
    · exact h
    · exact endL_le s f _ (partL_le h)
theorem wordL_le (s : ByteArray) (at_ : Nat) (h : at_ ≤ s.size) : (wordL s at_).2 ≤ s.size := by
  unfold wordL
  split
  · exact h
  · exact endL_le s _ _ h
theorem Word_any (s : ByteArray) (w : World) (hs : s.size < 2 ^ 30) :
    Calls Tryd.prog 75 #[.string s] w fun e w' => e = .returned (.int .i64 (Word s)) ∧ Mod (fun _ => False) w w' := by
  have HW := Lib.hid (lexWord_any s w (by omega))
  obtain ⟨v, hv⟩ : ∃ v, v = Word s := ⟨_, rfl⟩
  rw [← hv]
  unfold Word at hv
  generalize wordL s 0 = g at *
  obtain ⟨kd, e0⟩ := g
  simp only at *
  by_cases hlt : e0 < s.size
  · rw [if_pos hlt] at hv
    subst hv
    go_enter Tryd.func75, Tryd.ntmps75
    go_wp2_with (go_at_call 82; refine HW.out.mono ?_; rintro e w' ⟨rfl, hM⟩; have HM := Lib.hid hM; clear hM)
    go_ret
    exact ⟨rfl, HM.out⟩
  · rw [if_neg hlt] at hv
    subst hv
    go_enter Tryd.func75, Tryd.ntmps75
    go_wp2_with (go_at_call 82; refine HW.out.mono ?_; rintro e w' ⟨rfl, hM⟩; have HM := Lib.hid hM; clear hM)
    go_ret
    exact ⟨rfl, HM.out⟩
end Go.Proofs.YtphgglnkdfndiaaDoor
