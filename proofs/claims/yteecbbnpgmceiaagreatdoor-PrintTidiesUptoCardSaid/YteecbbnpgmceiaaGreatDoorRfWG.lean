import Derived.Test.YteecbbnpgmceiaaGreatDoorWrdG
namespace Go.Proofs.YteecbbnpgmceiaaGreatDoor
open Go Go.RowKit Go.Mine
set_option maxHeartbeats 400000
set_option maxRecDepth 100000
set_option linter.unusedVariables false

theorem get_in (s : ByteArray) (p : Nat) (h : p < s.size) : s.get! p = s[p] := by simpa using get_at s p h
def c3 (s : ByteArray) (at_ : Nat) : Prop := ∃ h : at_ + 1 < s.size, s[at_].toNat = 195 ∧ 128 ≤ s[at_ + 1].toNat ∧ s[at_ + 1].toNat ≤ 191
theorem dec_c3 (s : ByteArray) (at_ : Nat) (h : at_ + 1 < s.size) (h0 : s[at_].toNat = 195) (h1 : 128 ≤ s[at_ + 1].toNat) (h2 : s[at_ + 1].toNat ≤ 191) : Utf8.decode s at_ = (s[at_ + 1].toNat + 64, 2) := by
  have g0 : (s.get! (at_ + 0)).toNat = 195 := by rw [get_at s at_ (by omega), h0]
  have g1 : (s.get! (at_ + 1)).toNat = s[at_ + 1].toNat := by rw [get_in s _ h]
  simp only [Utf8.decode, g0, g1]
  rw [if_neg (by decide), if_pos (by simp [h]; omega), if_pos (by omega)]
  congr 1
  omega
theorem dec_high (s : ByteArray) (at_ : Nat) (h : at_ < s.size) (h0 : 128 ≤ s[at_].toNat) (hn : ¬ c3 s at_) : letterL (Utf8.decode s at_).1 = 0 := by
  have g0 : (s.get! (at_ + 0)).toNat = s[at_].toNat := by rw [get_at s at_ h]
  have hlt := s[at_].toNat_lt
  have g1 : at_ + 1 < s.size → s[at_].toNat = 195 → (s.get! (at_ + 1)).toNat / 64 = 2 → False := fun h1 h2 h3 => by
    rw [get_in s _ h1] at h3
    exact hn ⟨h1, h2, by omega, by omega⟩
  have hb1 := (s.get! (at_ + 1)).toNat_lt
  have hb2 := (s.get! (at_ + 2)).toNat_lt
  have hb3 := (s.get! (at_ + 3)).toNat_lt
  simp only [Utf8.decode, g0]
  generalize s[at_].toNat = b0 at *
  generalize (s.get! (at_ + 1)).toNat = b1 at *
  generalize (s.get! (at_ + 2)).toNat = b2 at *
  generalize (s.get! (at_ + 3)).toNat = b3 at *
  have key : ∀ r : Nat, (128 ≤ r ∧ r < 192) ∨ 255 < r → letterL r = 0 := fun r hr => by
    unfold letterL; rw [if_neg (by omega), if_neg (by omega)]
  repeat' split
  all_goals apply key
  all_goals simp_all [Utf8.runeError]
  all_goals omega
theorem dec_low (s : ByteArray) (at_ : Nat) (h : at_ < s.size) (h0 : s[at_].toNat < 128) : Utf8.decode s at_ = (s[at_].toNat, 1) := decode_ascii s at_ h h0

def smallL (s : ByteArray) (at_ : Nat) : Nat := if letterL (Utf8.decode s at_).1 = 1 then (Utf8.decode s at_).2 else 0
def greatL (s : ByteArray) (at_ : Nat) : Nat := if letterL (Utf8.decode s at_).1 = 2 then (Utf8.decode s at_).2 else 0

theorem lo1 {n : Nat} (h : n < 128) : letterL n = 1 ↔ 97 ≤ n ∧ n ≤ 122 := by
  unfold letterL; constructor
  · intro h2; split at h2
    · omega
    · split at h2 <;> omega
  · intro h2; rw [if_pos (by omega)]
theorem lo2 {n : Nat} (h : n < 128) : letterL n = 2 ↔ 65 ≤ n ∧ n ≤ 90 := by
  unfold letterL; constructor
  · intro h2; split at h2
    · omega
    · split at h2 <;> omega
  · intro h2; rw [if_neg (by omega), if_pos (by omega)]
theorem hi1 {n : Nat} (h : 192 ≤ n) (h' : n ≤ 255) : letterL n = 1 ↔ 223 ≤ n ∧ n ≠ 247 := by
  unfold letterL; constructor
  · intro h2; split at h2
    · omega
    · split at h2 <;> omega
  · intro h2; rw [if_pos (by omega)]
theorem hi2 {n : Nat} (h : 192 ≤ n) (h' : n ≤ 255) : letterL n = 2 ↔ n ≤ 222 ∧ n ≠ 215 := by
  unfold letterL; constructor
  · intro h2; split at h2
    · omega
    · split at h2 <;> omega
  · intro h2; rw [if_neg (by omega), if_pos (by omega)]
theorem small_lo {s : ByteArray} {at_ : Nat} (h : at_ < s.size) (h0 : s[at_].toNat < 128) : smallL s at_ = if 97 ≤ s[at_].toNat ∧ s[at_].toNat ≤ 122 then 1 else 0 := by
  unfold smallL; rw [dec_low s at_ h h0]; simp only [lo1 h0]
theorem great_lo {s : ByteArray} {at_ : Nat} (h : at_ < s.size) (h0 : s[at_].toNat < 128) : greatL s at_ = if 65 ≤ s[at_].toNat ∧ s[at_].toNat ≤ 90 then 1 else 0 := by
  unfold greatL; rw [dec_low s at_ h h0]; simp only [lo2 h0]
theorem small_c3 {s : ByteArray} {at_ : Nat} (h : at_ + 1 < s.size) (h0 : s[at_].toNat = 195) (h1 : 128 ≤ s[at_ + 1].toNat) (h2 : s[at_ + 1].toNat ≤ 191) : smallL s at_ = if 159 ≤ s[at_ + 1].toNat ∧ s[at_ + 1].toNat ≠ 183 then 2 else 0 := by
  unfold smallL; rw [dec_c3 s at_ h h0 h1 h2]; simp only [hi1 (show 192 ≤ s[at_ + 1].toNat + 64 by omega) (by omega)]
  congr 1
  exact propext ⟨fun h => by omega, fun h => by omega⟩
theorem great_c3 {s : ByteArray} {at_ : Nat} (h : at_ + 1 < s.size) (h0 : s[at_].toNat = 195) (h1 : 128 ≤ s[at_ + 1].toNat) (h2 : s[at_ + 1].toNat ≤ 191) : greatL s at_ = if s[at_ + 1].toNat ≤ 158 ∧ s[at_ + 1].toNat ≠ 151 then 2 else 0 := by
  unfold greatL; rw [dec_c3 s at_ h h0 h1 h2]; simp only [hi2 (show 192 ≤ s[at_ + 1].toNat + 64 by omega) (by omega)]
  congr 1
  exact propext ⟨fun h => by omega, fun h => by omega⟩
theorem small_hi {s : ByteArray} {at_ : Nat} (h : at_ < s.size) (h0 : 128 ≤ s[at_].toNat) (hn : ¬ c3 s at_) : smallL s at_ = 0 := by
  unfold smallL; rw [dec_high s at_ h h0 hn]; rfl
theorem great_hi {s : ByteArray} {at_ : Nat} (h : at_ < s.size) (h0 : 128 ≤ s[at_].toNat) (hn : ¬ c3 s at_) : greatL s at_ = 0 := by
  unfold greatL; rw [dec_high s at_ h h0 hn]; rfl

theorem small_any (s : ByteArray) (at_ : Nat) (w : World) (h : at_ < s.size) (hs : s.size < 2 ^ 40) :
    Calls Tryz.prog 212 #[.string s, .int .i64 at_] w fun e w' => e = .returned (.int .i64 (smallL s at_)) ∧ w = w' := by
  obtain ⟨v, hv⟩ : ∃ v, v = smallL s at_ := ⟨_, rfl⟩
  rw [← hv]
  obtain ⟨n0, hn0⟩ : ∃ n0, s[at_].toNat = n0 := ⟨_, rfl⟩
  by_cases hlo : n0 < 128
  · rw [small_lo h (by omega), hn0] at hv
    have h195 : ((n0 : Int) == 195) = false := by simp; omega
    rcases (show v = 1 ∧ 97 ≤ n0 ∧ n0 ≤ 122 ∨ v = 0 ∧ n0 < 97 ∨ v = 0 ∧ 122 < n0 by split at hv <;> omega) with ⟨rfl, h1, h2⟩ | ⟨rfl, h1⟩ | ⟨rfl, h1⟩
    all_goals
      clear hv
      go_enter Tryz.func212, Tryz.ntmps212
      go_wp2
      go_ret
      exact ⟨rfl, rfl⟩
  · by_cases h195 : n0 = 195
    · subst h195
      by_cases h1 : at_ + 1 < s.size
      · obtain ⟨n1, hn1⟩ : ∃ n1, s[at_ + 1].toNat = n1 := ⟨_, rfl⟩
        have hv2 : v = if 159 ≤ n1 ∧ n1 ≤ 191 ∧ n1 ≠ 183 then 2 else 0 := by
          by_cases hb : 128 ≤ n1 ∧ n1 ≤ 191
          · rw [hv, small_c3 h1 hn0 (by omega) (by omega), hn1]
            congr 1
            exact propext ⟨fun h => by omega, fun h => by omega⟩
          · rw [hv, small_hi h (by omega) (fun ⟨_, _, h3, h4⟩ => hb (by omega)), if_neg (by omega)]
        clear hv
        by_cases h183 : n1 = 183
        · subst h183
          rw [if_neg (by omega)] at hv2
          subst hv2
          go_enter Tryz.func212, Tryz.ntmps212
          go_wp2
          go_ret
          exact ⟨rfl, rfl⟩
        · have h183b : ((n1 : Int) != 183) = true := by simp; omega
          rcases (show v = 0 ∧ n1 < 159 ∨ v = 0 ∧ 191 < n1 ∨ v = 2 ∧ 159 ≤ n1 ∧ n1 ≤ 191 by split at hv2 <;> omega) with ⟨rfl, h2⟩ | ⟨rfl, h2⟩ | ⟨rfl, h2, h3⟩
          all_goals
            clear hv2 h183
            go_enter Tryz.func212, Tryz.ntmps212
            go_wp2
            go_ret
            exact ⟨rfl, rfl⟩
      · rw [small_hi h (by omega) (fun ⟨h, _⟩ => h1 h)] at hv
        subst hv
        go_enter Tryz.func212, Tryz.ntmps212
        go_wp2
        go_ret
        exact ⟨rfl, rfl⟩
    · rw [small_hi h (by omega) (fun ⟨_, h, _⟩ => h195 (by omega))] at hv
      subst hv
      have h195 : ((n0 : Int) == 195) = false := by simp; omega
      go_enter Tryz.func212, Tryz.ntmps212
      go_wp2
      go_ret
      exact ⟨rfl, rfl⟩
theorem great_any (s : ByteArray) (at_ : Nat) (w : World) (h : at_ < s.size) (hs : s.size < 2 ^ 40) :
    Calls Tryz.prog 213 #[.string s, .int .i64 at_] w fun e w' => e = .returned (.int .i64 (greatL s at_)) ∧ w = w' := by
  obtain ⟨v, hv⟩ : ∃ v, v = greatL s at_ := ⟨_, rfl⟩
  rw [← hv]
  obtain ⟨n0, hn0⟩ : ∃ n0, s[at_].toNat = n0 := ⟨_, rfl⟩
  by_cases hlo : n0 < 128
  · rw [great_lo h (by omega), hn0] at hv
    have h195 : ((n0 : Int) == 195) = false := by simp; omega
    rcases (show v = 1 ∧ 65 ≤ n0 ∧ n0 ≤ 90 ∨ v = 0 ∧ n0 < 65 ∨ v = 0 ∧ 90 < n0 by split at hv <;> omega) with ⟨rfl, h1, h2⟩ | ⟨rfl, h1⟩ | ⟨rfl, h1⟩
    all_goals
      clear hv
      go_enter Tryz.func213, Tryz.ntmps213
      go_wp2
      go_ret
      exact ⟨rfl, rfl⟩
  · by_cases h195 : n0 = 195
    · subst h195
      by_cases h1 : at_ + 1 < s.size
      · obtain ⟨n1, hn1⟩ : ∃ n1, s[at_ + 1].toNat = n1 := ⟨_, rfl⟩
        have hv2 : v = if 128 ≤ n1 ∧ n1 ≤ 158 ∧ n1 ≠ 151 then 2 else 0 := by
          by_cases hb : 128 ≤ n1 ∧ n1 ≤ 191
          · rw [hv, great_c3 h1 hn0 (by omega) (by omega), hn1]
            congr 1
            exact propext ⟨fun h => by omega, fun h => by omega⟩
          · rw [hv, great_hi h (by omega) (fun ⟨_, _, h3, h4⟩ => hb (by omega)), if_neg (by omega)]
        clear hv
        by_cases h151 : n1 = 151
        · subst h151
          rw [if_neg (by omega)] at hv2
          subst hv2
          go_enter Tryz.func213, Tryz.ntmps213
          go_wp2
          go_ret
          exact ⟨rfl, rfl⟩
        · have h151b : ((n1 : Int) != 151) = true := by simp; omega
          rcases (show v = 0 ∧ n1 < 128 ∨ v = 0 ∧ 158 < n1 ∨ v = 2 ∧ 128 ≤ n1 ∧ n1 ≤ 158 by split at hv2 <;> omega) with ⟨rfl, h2⟩ | ⟨rfl, h2⟩ | ⟨rfl, h2, h3⟩
          all_goals
            clear hv2 h151
            go_enter Tryz.func213, Tryz.ntmps213
            go_wp2
            go_ret
            exact ⟨rfl, rfl⟩
      · rw [great_hi h (by omega) (fun ⟨h, _⟩ => h1 h)] at hv
        subst hv
        go_enter Tryz.func213, Tryz.ntmps213
        go_wp2
        go_ret
        exact ⟨rfl, rfl⟩
    · rw [great_hi h (by omega) (fun ⟨_, h, _⟩ => h195 (by omega))] at hv
      subst hv
      have h195 : ((n0 : Int) == 195) = false := by simp; omega
      go_enter Tryz.func213, Tryz.ntmps213
      go_wp2
      go_ret
      exact ⟨rfl, rfl⟩
end Go.Proofs.YteecbbnpgmceiaaGreatDoor
namespace Go.Proofs.YteecbbnpgmceiaaGreatDoor
open Go Go.RowKit Go.Mine
set_option maxHeartbeats 400000
set_option maxRecDepth 100000
set_option linter.unusedVariables false

theorem letterL_le (r : Nat) : letterL r ≤ 2 := by unfold letterL; split <;> (try split) <;> omega
theorem letter_digit {r : Nat} (h : 48 ≤ r ∧ r ≤ 57 ∨ r = 95) : letterL r = 0 := by unfold letterL; rw [if_neg (by omega), if_neg (by omega)]
theorem dec_digit {s : ByteArray} {at_ : Nat} (h : at_ < s.size) : digitL (Utf8.decode s at_).1 = decide (48 ≤ s[at_].toNat ∧ s[at_].toNat ≤ 57) ∧ ((Utf8.decode s at_).1 = 95 ↔ s[at_].toNat = 95) := by
  by_cases hlo : s[at_].toNat < 128
  · rw [dec_low s at_ h hlo]; exact ⟨rfl, Iff.rfl⟩
  · have := (decode_high s at_ h (by omega)).1
    refine ⟨?_, by omega⟩
    unfold digitL
    rw [decide_eq_false (by omega), decide_eq_false (by omega)]
theorem dec_one {s : ByteArray} {at_ : Nat} (h : at_ < s.size) (h2 : s[at_].toNat < 128) : (Utf8.decode s at_).2 = 1 := by rw [dec_low s at_ h h2]
theorem part_one {s : ByteArray} {at_ : Nat} (h : at_ < s.size) (h2 : 48 ≤ s[at_].toNat ∧ s[at_].toNat ≤ 57 ∨ s[at_].toNat = 95) : partL s at_ = 1 := by
  unfold partL
  have hp : isPart s[at_].toNat = true := by
    unfold isPart digitL
    rcases h2 with h2 | h2 <;> simp [h2]
  rw [dec_low s at_ h (by omega), if_pos ⟨h, hp⟩]
theorem part_sum {s : ByteArray} {at_ : Nat} (h : at_ < s.size) (h1 : ¬ (48 ≤ s[at_].toNat ∧ s[at_].toNat ≤ 57)) (h2 : s[at_].toNat ≠ 95) : partL s at_ = smallL s at_ + greatL s at_ := by
  obtain ⟨d1, d2⟩ := dec_digit h
  rw [decide_eq_false h1] at d1
  have d3 : ¬ (Utf8.decode s at_).1 = 95 := fun e => h2 (d2.1 e)
  have hl := letterL_le (Utf8.decode s at_).1
  unfold partL smallL greatL isPart
  rw [d1]
  generalize (Utf8.decode s at_).1 = r at *
  rcases (show letterL r = 0 ∨ letterL r = 1 ∨ letterL r = 2 by omega) with e | e | e <;> simp [e, h, d3]
theorem kind_sum {s : ByteArray} {at_ : Nat} (h : at_ < s.size) : kindL s at_ = if 0 < greatL s at_ ∨ s[at_].toNat = 95 then 2 else if 0 < smallL s at_ ∨ (48 ≤ s[at_].toNat ∧ s[at_].toNat ≤ 57) then 1 else 0 := by
  obtain ⟨d1, d2⟩ := dec_digit h
  have hw := (decode_width s at_ h).1
  have hl := letterL_le (Utf8.decode s at_).1
  have hz : (48 ≤ s[at_].toNat ∧ s[at_].toNat ≤ 57) ∨ s[at_].toNat = 95 → letterL (Utf8.decode s at_).1 = 0 := fun hh => by
    rw [dec_low s at_ h (by omega)]; exact letter_digit hh
  unfold kindL kindR smallL greatL
  rw [if_pos h, d1]
  generalize Utf8.decode s at_ = g at *
  obtain ⟨r, n⟩ := g
  simp only at *
  by_cases h95 : s[at_].toNat = 95
  · rw [hz (.inr h95)]
    simp [h95, d2]
  · by_cases hd : 48 ≤ s[at_].toNat ∧ s[at_].toNat ≤ 57
    · rw [hz (.inl hd)]; simp [hd, h95]
    · have d3 : ¬ r = 95 := fun e => h95 (d2.1 e)
      rcases (show letterL r = 0 ∨ letterL r = 1 ∨ letterL r = 2 by omega) with e | e | e <;> simp [e, h95, hd, d3] <;> omega

theorem part_any (s : ByteArray) (at_ : Nat) (w : World) (h : at_ ≤ s.size) (hs : s.size < 2 ^ 40) :
    Calls Tryz.prog 214 #[.string s, .int .i64 at_] w fun e w' => e = .returned (.int .i64 (partL s at_)) ∧ w = w' := by
  by_cases hlt : at_ < s.size
  · obtain ⟨v, hv⟩ : ∃ v, v = partL s at_ := ⟨_, rfl⟩
    rw [← hv]
    obtain ⟨n0, hn0⟩ : ∃ n0, s[at_].toNat = n0 := ⟨_, rfl⟩
    by_cases h95 : n0 = 95
    · subst h95
      rw [part_one hlt (.inr hn0)] at hv
      subst hv
      go_enter Tryz.func214, Tryz.ntmps214
      go_wp2
      go_ret
      exact ⟨rfl, rfl⟩
    · have h95b : ((n0 : Int) == 95) = false := by simp; omega
      by_cases hd : 48 ≤ n0 ∧ n0 ≤ 57
      · rw [part_one hlt (.inl (by omega))] at hv
        subst hv
        obtain ⟨h1, h2⟩ := hd
        clear h95
        go_enter Tryz.func214, Tryz.ntmps214
        go_wp2
        go_ret
        exact ⟨rfl, rfl⟩
      · rw [part_sum hlt (by omega) (by omega)] at hv
        have HS := Lib.hid (fun w => small_any s at_ w hlt hs)
        have HG := Lib.hid (fun w => great_any s at_ w hlt hs)
        have b1 : smallL s at_ ≤ s.size := by have := decode_width s at_ hlt; unfold smallL; split <;> omega
        have b2 : greatL s at_ ≤ s.size := by have := decode_width s at_ hlt; unfold greatL; split <;> omega
        generalize smallL s at_ = a at *
        generalize greatL s at_ = b at *
        have HV := Lib.hid hv; clear hv h95
        rcases (show n0 < 48 ∨ 57 < n0 by omega) with h1 | h1
        all_goals
          clear hd
          go_enter Tryz.func214, Tryz.ntmps214
          go_wp2_with (first
            | (go_at_call 212; refine (HS.out _).mono ?_; rintro e w' ⟨rfl, rfl⟩)
            | (go_at_call 213; refine (HG.out _).mono ?_; rintro e w' ⟨rfl, rfl⟩))
          go_ret
          exact ⟨by rw [HV.out]; rfl, rfl⟩
  · obtain rfl : at_ = s.size := by omega
    have : partL s s.size = 0 := by unfold partL; rw [if_neg (fun h => hlt h.1)]
    rw [this]
    clear this
    go_enter Tryz.func214, Tryz.ntmps214
    go_wp2
    go_ret
    exact ⟨rfl, rfl⟩
end Go.Proofs.YteecbbnpgmceiaaGreatDoor
namespace Go.Proofs.YteecbbnpgmceiaaGreatDoor
open Go Go.RowKit Go.Mine
set_option maxHeartbeats 4000000
set_option maxRecDepth 100000
set_option linter.unusedVariables false

theorem refWord_any (s : ByteArray) (at_ : Nat) (w : World) (h : at_ ≤ s.size) (hs : s.size < 2 ^ 40) :
    Calls Tryz.prog 198 #[.string s, .int .i64 at_] w fun e w' => e = .returned (.tuple #[.int .i64 (wordL s at_).1, .int .i64 (wordL s at_).2]) ∧ w = w' := by
  by_cases hlt : at_ < s.size
  · have HS := Lib.hid (fun w => small_any s at_ w hlt hs)
    have HG := Lib.hid (fun w => great_any s at_ w hlt hs)
    obtain ⟨n0, hn0⟩ : ∃ n0, s[at_].toNat = n0 := ⟨_, rfl⟩
    have hk : kindL s at_ = if 0 < greatL s at_ ∨ n0 = 95 then 2 else if 0 < smallL s at_ ∨ (48 ≤ n0 ∧ n0 ≤ 57) then 1 else 0 := by subst hn0; exact kind_sum hlt
    have b1 : smallL s at_ ≤ s.size := by have := decode_width s at_ hlt; unfold smallL; split <;> omega
    have b2 : greatL s at_ ≤ s.size := by have := decode_width s at_ hlt; unfold greatL; split <;> omega
    have HLT := Lib.hid hlt
    generalize smallL s at_ = a at *
    generalize greatL s at_ = b at *
    by_cases hb : 0 < b ∨ n0 = 95
    · rw [if_pos hb] at hk
      have HKD := Lib.hid hk; clear hk
      rcases (show 0 < b ∨ b = 0 ∧ n0 = 95 by omega) with h1 | ⟨rfl, rfl⟩
      · clear hb
        rcases (show 0 < a ∨ a = 0 ∧ n0 < 48 ∨ a = 0 ∧ 48 ≤ n0 ∧ n0 ≤ 57 ∨ a = 0 ∧ 57 < n0 by omega) with h2 | ⟨rfl, h2⟩ | ⟨rfl, h2, h3⟩ | ⟨rfl, h2⟩
        · skip
          go_enter Tryz.func198, Tryz.ntmps198
          go_wp2_with (first
            | (go_at_call 212; refine (HS.out _).mono ?_; rintro e w' ⟨rfl, rfl⟩)
            | (go_at_call 213; refine (HG.out _).mono ?_; rintro e w' ⟨rfl, rfl⟩))
          go_loopw [7] (fun e wr => ∃ pos : Nat, e = .int .i64 pos ∧ wr = w ∧ Hid (pos ≤ s.size) ∧ Hid (End s pos (endL s s.size at_))) (fun e _ => s.size - (intOf e).toNat)
          case atStart => exact ⟨at_, rfl, rfl, Nat.le_of_lt HLT.out, s.size, by omega, rfl⟩
          case round =>
            obtain ⟨pos, rfl, rfl, hps, hE⟩ := hrel
            have HP := Lib.hid (part_any s pos wr hps.out hs)
            have hst := Lib.hid (fun h => hE.out.stop h)
            have hgo := Lib.hid (fun n h h2 h3 => hE.out.go (n := n) h h2 h3)
            have hpl := partL_le hps.out
            have hlt : 0 < partL s pos → pos < s.size := fun h => by omega
            obtain ⟨n, hn⟩ : ∃ n, n = partL s pos := ⟨_, rfl⟩
            rw [← hn] at HP hpl
            have HN := Lib.hid hn; have HL := Lib.hid hlt; have HPL := Lib.hid hpl; clear hn hlt
            by_cases h0 : 0 < n
            · go_wp2_with (first
                | (go_at_call 214; refine HP.out.mono ?_; rintro e w' ⟨rfl, rfl⟩))
              go_roundw
              case rel => exact ⟨pos + n, by go_num, by first | trivial | rfl, HPL.out, hgo.out n (HL.out (by rw [← HN.out]; exact h0)) HN.out.symm h0⟩
              case measure => have := HL.out (by rw [← HN.out]; exact h0); simp [intOf]; omega
            · obtain rfl : n = 0 := by omega
              go_wp2_with (first
                | (go_at_call 214; refine HP.out.mono ?_; rintro e w' ⟨rfl, rfl⟩))
              go_ret2
              rw [wordL_yes (by rw [HKD.out]; decide), HKD.out, hst.out HN.out.symm]
              exact ⟨rfl, rfl⟩
        · skip
          go_enter Tryz.func198, Tryz.ntmps198
          go_wp2_with (first
            | (go_at_call 212; refine (HS.out _).mono ?_; rintro e w' ⟨rfl, rfl⟩)
            | (go_at_call 213; refine (HG.out _).mono ?_; rintro e w' ⟨rfl, rfl⟩))
          go_loopw [7] (fun e wr => ∃ pos : Nat, e = .int .i64 pos ∧ wr = w ∧ Hid (pos ≤ s.size) ∧ Hid (End s pos (endL s s.size at_))) (fun e _ => s.size - (intOf e).toNat)
          case atStart => exact ⟨at_, rfl, rfl, Nat.le_of_lt HLT.out, s.size, by omega, rfl⟩
          case round =>
            obtain ⟨pos, rfl, rfl, hps, hE⟩ := hrel
            have HP := Lib.hid (part_any s pos wr hps.out hs)
            have hst := Lib.hid (fun h => hE.out.stop h)
            have hgo := Lib.hid (fun n h h2 h3 => hE.out.go (n := n) h h2 h3)
            have hpl := partL_le hps.out
            have hlt : 0 < partL s pos → pos < s.size := fun h => by omega
            obtain ⟨n, hn⟩ : ∃ n, n = partL s pos := ⟨_, rfl⟩
            rw [← hn] at HP hpl
            have HN := Lib.hid hn; have HL := Lib.hid hlt; have HPL := Lib.hid hpl; clear hn hlt
            by_cases h0 : 0 < n
            · go_wp2_with (first
                | (go_at_call 214; refine HP.out.mono ?_; rintro e w' ⟨rfl, rfl⟩))
              go_roundw
              case rel => exact ⟨pos + n, by go_num, by first | trivial | rfl, HPL.out, hgo.out n (HL.out (by rw [← HN.out]; exact h0)) HN.out.symm h0⟩
              case measure => have := HL.out (by rw [← HN.out]; exact h0); simp [intOf]; omega
            · obtain rfl : n = 0 := by omega
              go_wp2_with (first
                | (go_at_call 214; refine HP.out.mono ?_; rintro e w' ⟨rfl, rfl⟩))
              go_ret2
              rw [wordL_yes (by rw [HKD.out]; decide), HKD.out, hst.out HN.out.symm]
              exact ⟨rfl, rfl⟩
        · skip
          go_enter Tryz.func198, Tryz.ntmps198
          go_wp2_with (first
            | (go_at_call 212; refine (HS.out _).mono ?_; rintro e w' ⟨rfl, rfl⟩)
            | (go_at_call 213; refine (HG.out _).mono ?_; rintro e w' ⟨rfl, rfl⟩))
          go_loopw [7] (fun e wr => ∃ pos : Nat, e = .int .i64 pos ∧ wr = w ∧ Hid (pos ≤ s.size) ∧ Hid (End s pos (endL s s.size at_))) (fun e _ => s.size - (intOf e).toNat)
          case atStart => exact ⟨at_, rfl, rfl, Nat.le_of_lt HLT.out, s.size, by omega, rfl⟩
          case round =>
            obtain ⟨pos, rfl, rfl, hps, hE⟩ := hrel
            have HP := Lib.hid (part_any s pos wr hps.out hs)
            have hst := Lib.hid (fun h => hE.out.stop h)
            have hgo := Lib.hid (fun n h h2 h3 => hE.out.go (n := n) h h2 h3)
            have hpl := partL_le hps.out
            have hlt : 0 < partL s pos → pos < s.size := fun h => by omega
            obtain ⟨n, hn⟩ : ∃ n, n = partL s pos := ⟨_, rfl⟩
            rw [← hn] at HP hpl
            have HN := Lib.hid hn; have HL := Lib.hid hlt; have HPL := Lib.hid hpl; clear hn hlt
            by_cases h0 : 0 < n
            · go_wp2_with (first
                | (go_at_call 214; refine HP.out.mono ?_; rintro e w' ⟨rfl, rfl⟩))
              go_roundw
              case rel => exact ⟨pos + n, by go_num, by first | trivial | rfl, HPL.out, hgo.out n (HL.out (by rw [← HN.out]; exact h0)) HN.out.symm h0⟩
              case measure => have := HL.out (by rw [← HN.out]; exact h0); simp [intOf]; omega
            · obtain rfl : n = 0 := by omega
              go_wp2_with (first
                | (go_at_call 214; refine HP.out.mono ?_; rintro e w' ⟨rfl, rfl⟩))
              go_ret2
              rw [wordL_yes (by rw [HKD.out]; decide), HKD.out, hst.out HN.out.symm]
              exact ⟨rfl, rfl⟩
        · skip
          go_enter Tryz.func198, Tryz.ntmps198
          go_wp2_with (first
            | (go_at_call 212; refine (HS.out _).mono ?_; rintro e w' ⟨rfl, rfl⟩)
            | (go_at_call 213; refine (HG.out _).mono ?_; rintro e w' ⟨rfl, rfl⟩))
          go_loopw [7] (fun e wr => ∃ pos : Nat, e = .int .i64 pos ∧ wr = w ∧ Hid (pos ≤ s.size) ∧ Hid (End s pos (endL s s.size at_))) (fun e _ => s.size - (intOf e).toNat)
          case atStart => exact ⟨at_, rfl, rfl, Nat.le_of_lt HLT.out, s.size, by omega, rfl⟩
          case round =>
            obtain ⟨pos, rfl, rfl, hps, hE⟩ := hrel
            have HP := Lib.hid (part_any s pos wr hps.out hs)
            have hst := Lib.hid (fun h => hE.out.stop h)
            have hgo := Lib.hid (fun n h h2 h3 => hE.out.go (n := n) h h2 h3)
            have hpl := partL_le hps.out
            have hlt : 0 < partL s pos → pos < s.size := fun h => by omega
            obtain ⟨n, hn⟩ : ∃ n, n = partL s pos := ⟨_, rfl⟩
            rw [← hn] at HP hpl
            have HN := Lib.hid hn; have HL := Lib.hid hlt; have HPL := Lib.hid hpl; clear hn hlt
            by_cases h0 : 0 < n
            · go_wp2_with (first
                | (go_at_call 214; refine HP.out.mono ?_; rintro e w' ⟨rfl, rfl⟩))
              go_roundw
              case rel => exact ⟨pos + n, by go_num, by first | trivial | rfl, HPL.out, hgo.out n (HL.out (by rw [← HN.out]; exact h0)) HN.out.symm h0⟩
              case measure => have := HL.out (by rw [← HN.out]; exact h0); simp [intOf]; omega
            · obtain rfl : n = 0 := by omega
              go_wp2_with (first
                | (go_at_call 214; refine HP.out.mono ?_; rintro e w' ⟨rfl, rfl⟩))
              go_ret2
              rw [wordL_yes (by rw [HKD.out]; decide), HKD.out, hst.out HN.out.symm]
              exact ⟨rfl, rfl⟩
      · clear hb
        rcases (show 0 < a ∨ a = 0 by omega) with h2 | rfl
        · skip
          go_enter Tryz.func198, Tryz.ntmps198
          go_wp2_with (first
            | (go_at_call 212; refine (HS.out _).mono ?_; rintro e w' ⟨rfl, rfl⟩)
            | (go_at_call 213; refine (HG.out _).mono ?_; rintro e w' ⟨rfl, rfl⟩))
          go_loopw [7] (fun e wr => ∃ pos : Nat, e = .int .i64 pos ∧ wr = w ∧ Hid (pos ≤ s.size) ∧ Hid (End s pos (endL s s.size at_))) (fun e _ => s.size - (intOf e).toNat)
          case atStart => exact ⟨at_, rfl, rfl, Nat.le_of_lt HLT.out, s.size, by omega, rfl⟩
          case round =>
            obtain ⟨pos, rfl, rfl, hps, hE⟩ := hrel
            have HP := Lib.hid (part_any s pos wr hps.out hs)
            have hst := Lib.hid (fun h => hE.out.stop h)
            have hgo := Lib.hid (fun n h h2 h3 => hE.out.go (n := n) h h2 h3)
            have hpl := partL_le hps.out
            have hlt : 0 < partL s pos → pos < s.size := fun h => by omega
            obtain ⟨n, hn⟩ : ∃ n, n = partL s pos := ⟨_, rfl⟩
            rw [← hn] at HP hpl
            have HN := Lib.hid hn; have HL := Lib.hid hlt; have HPL := Lib.hid hpl; clear hn hlt
            by_cases h0 : 0 < n
            · go_wp2_with (first
                | (go_at_call 214; refine HP.out.mono ?_; rintro e w' ⟨rfl, rfl⟩))
              go_roundw
              case rel => exact ⟨pos + n, by go_num, by first | trivial | rfl, HPL.out, hgo.out n (HL.out (by rw [← HN.out]; exact h0)) HN.out.symm h0⟩
              case measure => have := HL.out (by rw [← HN.out]; exact h0); simp [intOf]; omega
            · obtain rfl : n = 0 := by omega
              go_wp2_with (first
                | (go_at_call 214; refine HP.out.mono ?_; rintro e w' ⟨rfl, rfl⟩))
              go_ret2
              rw [wordL_yes (by rw [HKD.out]; decide), HKD.out, hst.out HN.out.symm]
              exact ⟨rfl, rfl⟩
        · skip
          go_enter Tryz.func198, Tryz.ntmps198
          go_wp2_with (first
            | (go_at_call 212; refine (HS.out _).mono ?_; rintro e w' ⟨rfl, rfl⟩)
            | (go_at_call 213; refine (HG.out _).mono ?_; rintro e w' ⟨rfl, rfl⟩))
          go_loopw [7] (fun e wr => ∃ pos : Nat, e = .int .i64 pos ∧ wr = w ∧ Hid (pos ≤ s.size) ∧ Hid (End s pos (endL s s.size at_))) (fun e _ => s.size - (intOf e).toNat)
          case atStart => exact ⟨at_, rfl, rfl, Nat.le_of_lt HLT.out, s.size, by omega, rfl⟩
          case round =>
            obtain ⟨pos, rfl, rfl, hps, hE⟩ := hrel
            have HP := Lib.hid (part_any s pos wr hps.out hs)
            have hst := Lib.hid (fun h => hE.out.stop h)
            have hgo := Lib.hid (fun n h h2 h3 => hE.out.go (n := n) h h2 h3)
            have hpl := partL_le hps.out
            have hlt : 0 < partL s pos → pos < s.size := fun h => by omega
            obtain ⟨n, hn⟩ : ∃ n, n = partL s pos := ⟨_, rfl⟩
            rw [← hn] at HP hpl
            have HN := Lib.hid hn; have HL := Lib.hid hlt; have HPL := Lib.hid hpl; clear hn hlt
            by_cases h0 : 0 < n
            · go_wp2_with (first
                | (go_at_call 214; refine HP.out.mono ?_; rintro e w' ⟨rfl, rfl⟩))
              go_roundw
              case rel => exact ⟨pos + n, by go_num, by first | trivial | rfl, HPL.out, hgo.out n (HL.out (by rw [← HN.out]; exact h0)) HN.out.symm h0⟩
              case measure => have := HL.out (by rw [← HN.out]; exact h0); simp [intOf]; omega
            · obtain rfl : n = 0 := by omega
              go_wp2_with (first
                | (go_at_call 214; refine HP.out.mono ?_; rintro e w' ⟨rfl, rfl⟩))
              go_ret2
              rw [wordL_yes (by rw [HKD.out]; decide), HKD.out, hst.out HN.out.symm]
              exact ⟨rfl, rfl⟩
    · rw [if_neg hb] at hk
      obtain rfl : b = 0 := by omega
      have h95 : n0 ≠ 95 := by omega
      have h95b : ((n0 : Int) == 95) = false := by simp; omega
      clear hb
      by_cases ha : 0 < a ∨ (48 ≤ n0 ∧ n0 ≤ 57)
      · rw [if_pos ha] at hk
        have HKD := Lib.hid hk; clear hk
        rcases (show 0 < a ∨ a = 0 ∧ 48 ≤ n0 ∧ n0 ≤ 57 by omega) with h2 | ⟨rfl, h2, h3⟩
        · clear ha h95
          go_enter Tryz.func198, Tryz.ntmps198
          go_wp2_with (first
            | (go_at_call 212; refine (HS.out _).mono ?_; rintro e w' ⟨rfl, rfl⟩)
            | (go_at_call 213; refine (HG.out _).mono ?_; rintro e w' ⟨rfl, rfl⟩))
          go_loopw [7] (fun e wr => ∃ pos : Nat, e = .int .i64 pos ∧ wr = w ∧ Hid (pos ≤ s.size) ∧ Hid (End s pos (endL s s.size at_))) (fun e _ => s.size - (intOf e).toNat)
          case atStart => exact ⟨at_, rfl, rfl, Nat.le_of_lt HLT.out, s.size, by omega, rfl⟩
          case round =>
            obtain ⟨pos, rfl, rfl, hps, hE⟩ := hrel
            have HP := Lib.hid (part_any s pos wr hps.out hs)
            have hst := Lib.hid (fun h => hE.out.stop h)
            have hgo := Lib.hid (fun n h h2 h3 => hE.out.go (n := n) h h2 h3)
            have hpl := partL_le hps.out
            have hlt : 0 < partL s pos → pos < s.size := fun h => by omega
            obtain ⟨n, hn⟩ : ∃ n, n = partL s pos := ⟨_, rfl⟩
            rw [← hn] at HP hpl
            have HN := Lib.hid hn; have HL := Lib.hid hlt; have HPL := Lib.hid hpl; clear hn hlt
            by_cases h0 : 0 < n
            · go_wp2_with (first
                | (go_at_call 214; refine HP.out.mono ?_; rintro e w' ⟨rfl, rfl⟩))
              go_roundw
              case rel => exact ⟨pos + n, by go_num, by first | trivial | rfl, HPL.out, hgo.out n (HL.out (by rw [← HN.out]; exact h0)) HN.out.symm h0⟩
              case measure => have := HL.out (by rw [← HN.out]; exact h0); simp [intOf]; omega
            · obtain rfl : n = 0 := by omega
              go_wp2_with (first
                | (go_at_call 214; refine HP.out.mono ?_; rintro e w' ⟨rfl, rfl⟩))
              go_ret2
              rw [wordL_yes (by rw [HKD.out]; decide), HKD.out, hst.out HN.out.symm]
              exact ⟨rfl, rfl⟩
        · clear ha h95
          go_enter Tryz.func198, Tryz.ntmps198
          go_wp2_with (first
            | (go_at_call 212; refine (HS.out _).mono ?_; rintro e w' ⟨rfl, rfl⟩)
            | (go_at_call 213; refine (HG.out _).mono ?_; rintro e w' ⟨rfl, rfl⟩))
          go_loopw [7] (fun e wr => ∃ pos : Nat, e = .int .i64 pos ∧ wr = w ∧ Hid (pos ≤ s.size) ∧ Hid (End s pos (endL s s.size at_))) (fun e _ => s.size - (intOf e).toNat)
          case atStart => exact ⟨at_, rfl, rfl, Nat.le_of_lt HLT.out, s.size, by omega, rfl⟩
          case round =>
            obtain ⟨pos, rfl, rfl, hps, hE⟩ := hrel
            have HP := Lib.hid (part_any s pos wr hps.out hs)
            have hst := Lib.hid (fun h => hE.out.stop h)
            have hgo := Lib.hid (fun n h h2 h3 => hE.out.go (n := n) h h2 h3)
            have hpl := partL_le hps.out
            have hlt : 0 < partL s pos → pos < s.size := fun h => by omega
            obtain ⟨n, hn⟩ : ∃ n, n = partL s pos := ⟨_, rfl⟩
            rw [← hn] at HP hpl
            have HN := Lib.hid hn; have HL := Lib.hid hlt; have HPL := Lib.hid hpl; clear hn hlt
            by_cases h0 : 0 < n
            · go_wp2_with (first
                | (go_at_call 214; refine HP.out.mono ?_; rintro e w' ⟨rfl, rfl⟩))
              go_roundw
              case rel => exact ⟨pos + n, by go_num, by first | trivial | rfl, HPL.out, hgo.out n (HL.out (by rw [← HN.out]; exact h0)) HN.out.symm h0⟩
              case measure => have := HL.out (by rw [← HN.out]; exact h0); simp [intOf]; omega
            · obtain rfl : n = 0 := by omega
              go_wp2_with (first
                | (go_at_call 214; refine HP.out.mono ?_; rintro e w' ⟨rfl, rfl⟩))
              go_ret2
              rw [wordL_yes (by rw [HKD.out]; decide), HKD.out, hst.out HN.out.symm]
              exact ⟨rfl, rfl⟩
      · rw [if_neg ha] at hk
        obtain rfl : a = 0 := by omega
        have h3 : n0 < 48 ∨ 57 < n0 := by omega
        have HKD := Lib.hid hk; clear hk ha h95
        rcases h3 with h3 | h3
        all_goals
          go_enter Tryz.func198, Tryz.ntmps198
          go_wp2_with (first
            | (go_at_call 212; refine (HS.out _).mono ?_; rintro e w' ⟨rfl, rfl⟩)
            | (go_at_call 213; refine (HG.out _).mono ?_; rintro e w' ⟨rfl, rfl⟩))
          go_ret2
          rw [wordL_no HKD.out]
          exact ⟨rfl, rfl⟩
  · obtain rfl : at_ = s.size := by omega
    rw [wordL_no (by unfold kindL; rw [if_neg hlt])]
    clear hlt
    go_enter Tryz.func198, Tryz.ntmps198
    go_wp2
    go_ret2
    exact ⟨rfl, rfl⟩
end Go.Proofs.YteecbbnpgmceiaaGreatDoor
