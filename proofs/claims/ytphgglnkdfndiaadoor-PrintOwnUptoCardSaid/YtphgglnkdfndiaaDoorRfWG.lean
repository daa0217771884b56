import Derived.Test.YtphgglnkdfndiaaDoorWrdG
namespace Go.Proofs.YtphgglnkdfndiaaDoor
open Go Go.RowKit Go.Mine
set_option maxHeartbeats 400000
set_option maxRecDepth 100000
set_option linter.unusedVariables false

theorem get_in (s : ByteArray) (p : Nat) (h : p < s.size) : s.get! p = s[p] := by simpa using get_at s p h
def c3 (s : ByteArray) (at_ : Nat) : Prop := ∃ h : at_ + 1 < s.size, s[at_].toNat = 195 ∧ 128 ≤ s[at_ + 1].toNat ∧ s[at_ + 1].toNat ≤ 191
theorem dec_c3 (s : ByteArray) (at_ : Nat) (h : at_ + 1 < s.size) (h0 : s[at_].toNat = 195) (h1 : 128 ≤ s[at_ + 1].toNat) (h2 : s[at_ + 1].toNat ≤ 191) : Utf8.decode s at_ = (s[at_ + 1].toNat + 64, 2) := by
  have g0 : (s.get! (at_ + 0)).toNat = 195 := by rw [get_at s at_ (by omega), h0]
  have g1 : (s.get! (at_ + 1)).toNat = s[at_ + 1].toNat := by rw [get_in s _ h]
  simp only [Utf8.decode, g0, g1]
  rw [if_neg (by decide), if_pos (by simp [h]; omega), if_pos (by omega)]
  congr 1
  omega
theorem dec_high (s : ByteArray) (at_ : Nat) (h : at_ < s.size) (h0 : 128 ≤ s[at_].toNat) (hn : ¬ c3 s at_) : letterL (Utf8.decode s at_).1 = 0 := by
  have g0 : (s.get! (at_ + 0)).toNat = s[at_].toNat := by rw [get_at s at_ h]
  have hlt := s[at_].toNat_lt
  have g1 : at_ + 1 < s.size → s[at_].toNat = 195 → (s.get! (at_ + 1)).toNat / 64 = 2 → False := fun h1 h2 h3 => by
    rw [get_in s _ h1] at h3
    exact hn ⟨h1, h2, by omega, by omega⟩
  have hb1 := (s.get! (at_ + 1)).toNat_lt
  have hb2 := (s.get! (at_ + 2)).toNat_lt
  have hb3 := (s.get! (at_ + 3)).toNat_lt
  simp only [Utf8.decode, g0]
  generalize s[at_].toNat = b0 at *
  generalize (s.get! (at_ + 1)).toNat = b1 at *
  generalize (s.get! (at_ + 2)).toNat = b2 at *
  generalize (s.get! (at_ + 3)).toNat = b3 at *
  have key : ∀ r : Nat, (128 ≤ r ∧ r < 192) ∨ 255 < r → letterL r = 0 := fun r hr => by
    unfold letterL; rw [if_neg (by omega), if_neg (by omega)]
  repeat' split
  all_goals apply key
  all_goals simp_all [Utf8.runeError]
  all_goals omega
theorem dec_low (s : ByteArray) (at_ : Nat) (h : at_ < s.size) (h0 : s[at_].toNat < 128) : Utf8.decode s at_ = (s[at_].toNat, 1) := decode_ascii s at_ h h0

def smallL (s : ByteArray) (at_ : Nat) : Nat := if letterL (Utf8.decode s at_).1 = 1 then (Utf8.decode s at_).2 else 0
def greatL (s : ByteArray) (at_ : Nat) : Nat := if letterL (Utf8.decode s at_).1 = 2 then (Utf8.decode s at_).2 else 0

theorem lo1 {n : Nat} (h : n < 128) : letterL n = 1 ↔ 97 ≤ n ∧ n ≤ 122 := by
  unfold letterL; constructor
  · intro h2; split at h2
    · omega
    · split at h2 <;> omega
  · intro h2; rw [if_pos (by omega)]
theorem lo2 {n : Nat} (h : n < 128) : letterL n = 2 ↔ 65 ≤ n ∧ n ≤ 90 := by
  unfold letterL; constructor
  · intro h2; split at h2
    · omega
    · split at h2 <;> omega
  · intro h2; rw [if_neg (by omega), if_pos (by omega)]
theorem hi1 {n : Nat} (h : 192 ≤ n) (h' : n ≤ 255) : letterL n = 1 ↔ 223 ≤ n ∧ n ≠ 247 := by
  unfold letterL; constructor
  · intro h2; split at h2
    · omega
    · split at h2 <;> omega
  · intro h2; rw [if_pos (by omega)]
theorem hi2 {n : Nat} (h : 192 ≤ n) (h' : n ≤ 255) : letterL n = 2 ↔ n ≤ 222 ∧ n ≠ 215 := by
  unfold letterL; constructor
  · intro h2; split at h2
    · omega
    · split at h2 <;> omega
  · intro h2; rw [if_neg (by omega), if_pos (by omega)]
theorem small_lo {s : ByteArray} {at_ : Nat} (h : at_ < s.size) (h0 : s[at_].toNat < 128) : smallL s at_ = if 97 ≤ s[at_].toNat ∧ s[at_].toNat ≤ 122 then 1 else 0 := by
  unfold smallL; rw [dec_low s at_ h h0]; simp only [lo1 h0]
theorem great_lo {s : ByteArray} {at_ : Nat} (h : at_ < s.size) (h0 : s[at_].toNat < 128) : greatL s at_ = if 65 ≤ s[at_].toNat ∧ s[at_].toNat ≤ 90 then 1 else 0 := by
  unfold greatL; rw [dec_low s at_ h h0]; simp only [lo2 h0]
theorem small_c3 {s : ByteArray} {at_ : Nat} (h : at_ + 1 < s.size) (h0 : s[at_].toNat = 195) (h1 : 128 ≤ s[at_ + 1].toNat) (h2 : s[at_ + 1].toNat ≤ 191) : smallL s at_ = if 159 ≤ s[at_ + 1].toNat ∧ s[at_ + 1].toNat ≠ 183 then 2 else 0 := by
  unfold smallL; rw [dec_c3 s at_ h h0 h1 h2]; simp only [hi1 (show 192 ≤ s[at_ + 1].toNat + 64 by omega) (by omega)]
  congr 1
  exact propext ⟨fun h => by omega, fun h => by omega⟩
theorem great_c3 {s : ByteArray} {at_ : Nat} (h : at_ + 1 < s.size) (h0 : s[at_].toNat = 195) (h1 : 128 ≤ s[at_ + 1].toNat) (h2 : s[at_ + 1].toNat ≤ 191) : greatL s at_ = if s[at_ + 1].toNat ≤ 158 ∧ s[at_ + 1].toNat ≠ 151 then 2 else 0 := by
  unfold greatL; rw [dec_c3 s at_ h h0 h1 h2]; simp only [hi2 (show 192 ≤ s[at_ + 1].toNat + 64 by omega) (by omega)]
  congr 1
  exact propext ⟨fun h => by omega, fun h => by omega⟩
theorem small_hi {s : ByteArray} {at_ : Nat} (h : at_ < s.size) (h0 : 128 ≤ s[at_].toNat) (hn : ¬ c3 s at_) : smallL s at_ = 0 := by
  unfold smallL; rw [dec_high s at_ h h0 hn]; rfl
theorem great_hi {s : ByteArray} {at_ : Nat} (h : at_ < s.size) (h0 : 128 ≤ s[at_].toNat) (hn : ¬ c3 s at_) : greatL s at_ = 0 := by
  unfold greatL; rw [dec_high s at_ h h0 hn]; rfl

end Go.Proofs.YtphgglnkdfndiaaDoor
namespace Go.Proofs.YtphgglnkdfndiaaDoor
open Go Go.RowKit Go.Mine
set_option maxHeartbeats 400000
set_option maxRecDepth 100000
set_option linter.unusedVariables false

theorem letterL_le (r : Nat) : letterL r ≤ 2 := by unfold letterL; split <;> (try split) <;> omega
theorem letter_digit {r : Nat} (h : 48 ≤ r ∧ r ≤ 57 ∨ r = 95) : letterL r = 0 := by unfold letterL; rw [if_neg (by omega), if_neg (by omega)]
theorem dec_digit {s : ByteArray} {at_ : Nat} (h : at_ < s.size) : digitL (Utf8.decode s at_).1 = decide (48 ≤ s[at_].toNat ∧ s[at_].toNat ≤ 57) ∧ ((Utf8.decode s at_).1 = 95 ↔ s[at_].toNat = 95) := by
  by_cases hlo : s[at_].toNat < 128
  · rw [dec_low s at_ h hlo]; exact ⟨rfl, Iff.rfl⟩
  · have := (decode_high s at_ h (by omega)).1
    refine ⟨?_, by omega⟩
    unfold digitL
    rw [decide_eq_false (by omega), decide_eq_false (by omega)]
theorem dec_one {s : ByteArray} {at_ : Nat} (h : at_ < s.size) (h2 : s[at_].toNat < 128) : (Utf8.decode s at_).2 = 1 := by rw [dec_low s at_ h h2]
theorem part_one {s : ByteArray} {at_ : Nat} (h : at_ < s.size) (h2 : 48 ≤ s[at_].toNat ∧ s[at_].toNat ≤ 57 ∨ s[at_].toNat = 95) : partL s at_ = 1 := by
  unfold partL
  have hp : isPart s[at_].toNat = true := by
    unfold isPart digitL
    rcases h2 with h2 | h2 <;> simp [h2]
  rw [dec_low s at_ h (by omega), if_pos ⟨h, hp⟩]
theorem part_sum {s : ByteArray} {at_ : Nat} (h : at_ < s.size) (h1 : ¬ (48 ≤ s[at_].toNat ∧ s[at_].toNat ≤ 57)) (h2 : s[at_].toNat ≠ 95) : partL s at_ = smallL s at_ + greatL s at_ := by
  obtain ⟨d1, d2⟩ := dec_digit h
  rw [decide_eq_false h1] at d1
  have d3 : ¬ (Utf8.decode s at_).1 = 95 := fun e => h2 (d2.1 e)
  have hl := letterL_le (Utf8.decode s at_).1
  unfold partL smallL greatL isPart
  rw [d1]
  generalize (Utf8.decode s at_).1 = r at *
  rcases (show letterL r = 0 ∨ letterL r = 1 ∨ letterL r = 2 by omega) with e | e | e <;> simp [e, h, d3]
theorem kind_sum {s : ByteArray} {at_ : Nat} (h : at_ < s.size) : kindL s at_ = if 0 < greatL s at_ ∨ s[at_].toNat = 95 then 2 else if 0 < smallL s at_ ∨ (48 ≤ s[at_].toNat ∧ s[at_].toNat ≤ 57) then 1 else 0 := by
  obtain ⟨d1, d2⟩ := dec_digit h
  have hw := (decode_width s at_ h).1
  have hl := letterL_le (Utf8.decode s at_).1
  have hz : (48 ≤ s[at_].toNat ∧ s[at_].toNat ≤ 57) ∨ s[at_].toNat = 95 → letterL (Utf8.decode s at_).1 = 0 := fun hh => by
    rw [dec_low s at_ h (by omega)]; exact letter_digit hh
  unfold kindL kindR smallL greatL
  rw [if_pos h, d1]
  generalize Utf8.decode s at_ = g at *
  obtain ⟨r, n⟩ := g
  simp only at *
  by_cases h95 : s[at_].toNat = 95
  · rw [hz (.inr h95)]
    simp [h95, d2]
  · by_cases hd : 48 ≤ s[at_].toNat ∧ s[at_].toNat ≤ 57
    · rw [hz (.inl hd)]; simp [hd, h95]
    · have d3 : ¬ r = 95 := fun e => h95 (d2.1 e)
      rcases (show letterL r = 0 ∨ letterL r = 1 ∨ letterL r = 2 by omega) with e | e | e <;> simp [e, h95, hd, d3] <;> omega

end Go.Proofs.YtphgglnkdfndiaaDoor
namespace Go.Proofs.YtphgglnkdfndiaaDoor
open Go Go.RowKit Go.Mine
set_option maxHeartbeats 4000000
set_option maxRecDepth 100000
set_option linter.unusedVariables false

end Go.Proofs.YtphgglnkdfndiaaDoor
